/-
  Proved: lemmas for Rows.FnFormatsCardSaid.
-/
import Derived.Test.YtmkhgngckgcpeaaGreatDooruAmOps
set_option linter.all false
section
namespace Go.Am
open Go Go.RowKit
section
variable {P:Program}{c:Cfg}{Γ:Ctx}{st:St}{a:Act}{w:World}{den:Nat->List V->Option V}{η:Nat->Option V}{d:Nat}
def LdOk (a:Act)(w w':World)(o:Oper):Prop:=
 match o.op with
 |.load _ x=>∀k n,a.eval x = .pointer (some ⟨k,n,none⟩)->w'.heap[k]?=w.heap[k]?
 |.convert _ _ _=>w'=w
 |_=>True
theorem LdOk.refl (a:Act)(w:World)(o:Oper):LdOk a w w o:=by
 unfold LdOk;split;·exact λ_ _ _=>rfl
 ·rfl
 ·trivial
def bv (P:Program)(Γ:Ctx)(a:Act)(w:World)(o:Oper)(v:V):Prop:=∃x,(∀w',LdOk a w w' o->(execOp a.eval o).run P w' = .ok (.value x) w')/\VR Γ w v x
theorem p9 {y:ByteArray}{s:List UInt8}(h:y.data.toList=s):y.toList=s:=by rw[ByteArray.toList_eq];exact h
theorem tA (hs:Sim Γ st a w){o:Oper}{x:Operand}(b:o.op = .move x\/o.op = .assign x):bv P Γ a w o (ev st.t x):=by refine⟨a.eval x,λw1 _=>?_,hs.ev x⟩;rcases b with b|b<;>simp[execOp,b]
theorem CF (hs:Sim Γ st a w){o:Oper}{x y z:Operand}{v:V}(f:o.op = .pick x y z)(h:aF c den (ev st.t) η d o.op=some (.val v)):bv P Γ a w o v:=by
 rw[f]at h;simp only[aF,plain]at h;have g:=hs.ev x;cases i:ev st.t x with
 |bool b=>
  rw[i]at h g;have e:=g.bool_inv;cases b<;>simp only[aK,Out.val.injEq]at h<;>subst h;·exact⟨a.eval z,λw1 _=>by simp[execOp,f,e,asBool],hs.ev z⟩
  ·exact⟨a.eval y,λw1 _=>by simp[execOp,f,e,asBool],hs.ev y⟩
 |_=>rw[i]at h;cases h
theorem sD (hs:Sim Γ st a w){o:Oper}{x:Operand}{v:V}(k:o.op = .nilCheck x)(h:aF c den (ev st.t) η d o.op=some (.val v)):bv P Γ a w o v:=by
 rw[k]at h;simp only[aF,plain]at h;have f:=hs.ev x;have g:(∃p,a.eval x = .pointer (some p)) -> ∀w',LdOk a w w' o->(execOp a.eval o).run P w' = .ok (.value (a.eval x)) w':=by rintro⟨p,m⟩ w1 _;simp[execOp,k,m]
 cases j:ev st.t x with
 |ptr r n =>rw[j]at h f;simp only[aK,Out.val.injEq]at h;subst h;exact⟨a.eval x,g ⟨_,f.ptr_inv.1⟩,f⟩
 |iptr l n =>rw[j]at h f;simp only[aK,Out.val.injEq]at h;subst h;obtain⟨_,_,_,e,_⟩:=f.iptr_inv;exact⟨a.eval x,g ⟨_,e⟩,f⟩
 |vptr b l n =>rw[j]at h f;simp only[aK,Out.val.injEq]at h;subst h;obtain⟨_,_,e,_⟩:=f.vptr_inv;exact⟨a.eval x,g ⟨_,e⟩,f⟩
 |eptr b s q xs i n =>rw[j]at h f;simp only[aK,Out.val.injEq]at h;subst h;exact⟨a.eval x,g ⟨_,f.eptr_inv.1⟩,f⟩
 |_=>rw[j]at h;cases h
theorem CG (hs:Sim Γ st a w){o:Oper}{u:UnOp}{t:TypeId}{x:Operand}{v:V}(g:o.op = .unOp u t x)(h:aF c den (ev st.t) η d o.op=some (.val v)):bv P Γ a w o v:=by
 rw[g]at h;have f:=hs.ev x;cases u with
 |not=>
  simp only[aF,plain]at h;cases e:ev st.t x with
  |bool b =>rw[e]at h f;simp only[aK,Out.val.injEq]at h;subst h;exact⟨.bool !b,λw1 _=>by simp[execOp,g,f.bool_inv,Op.unary],.rd _ _ (.bool _)⟩
  |_=>rw[e]at h;cases h
 |neg=>
  simp only[aF,plain]at h;cases e:ev st.t x with
  |int k n =>rw[e]at h f;simp only[aK,Out.val.injEq]at h;subst h;exact⟨.int k (k.wrap (0-n)),λw1 _=>by simp[execOp,g,f.int_inv,Op.unary,Op.intArith],.rd _ _ (.int _ _)⟩
  |_=>rw[e]at h;cases h
 |_=>simp only[aF]at h;cases h
theorem uT (hs:Sim Γ st a w){o:Oper}{x:Operand}{i:Nat}{v:V}(k:o.op = .extract x i)(h:aF c den (ev st.t) η d o.op=some (.val v)):bv P Γ a w o v:=by
 rw[k]at h;simp only[aF,plain]at h;have f:=hs.ev x;cases g:ev st.t x with
 |tup vs=>
  rw[g]at h f;simp only at h;cases b:vs[i]? with
  |none=>rw[b]at h;cases h
  |some u =>rw[b]at h;simp only[aK,Out.val.injEq]at h;subst h;obtain⟨ys,e,n,l⟩:=f.tup_inv;have m:i<vs.length:=(bW b).1;have j:ys[i]?=some (ys[i]'(by omega)):=Array.getElem?_eq_getElem (by omega);exact⟨ys[i]'(by omega),λw1 _=>by simp[execOp,k,e,Instr.extract,j],l i _ _ b j⟩
 |_=>rw[g]at h;cases h
theorem sC (hs:Sim Γ st a w){o:Oper}{g:Fn}{first b:Array Operand}{v:V}(j:o.op = .makeFunc g first b)(h:aF c den (ev st.t) η d o.op=some (.val v)):bv P Γ a w o v:=by
 rw[j]at h;cases g with
 |func f=>
  simp only[aF,plain]at h;split at h
  ·rename_i p;simp only[aK,Out.val.injEq]at h;subst h;have m:first.map a.eval = #[]:=by
    have:first = #[]:=Array.eq_empty_of_size_eq_zero p
    rw[this];simp
   refine⟨.func (.func f) #[] (b.map a.eval),λw1 _=>by simp[execOp,j,Instr.makeFunc,m],.clo f _ _ (by simp) ?_⟩;intro i u y k l;simp only[List.getElem?_map,Array.getElem?_toList,Array.getElem?_map,Option.map_eq_some_iff]at k l;obtain⟨n,q,rfl⟩:=k;obtain⟨r,e,rfl⟩:=l;rw[q]at e;injection e with e;subst e;exact hs.ev n
  ·cases h
 |_=>simp only[aF]at h;cases h
theorem uS (q:ay P c)(hs:Sim Γ st a w){o:Oper}{s t:TypeId}{x:Operand}{v:V}(z:o.op = .convert s t x)(b:nj c s t (ev st.t x)=some v):bv P Γ a w o v:=by
  have f:=hs.ev x;unfold nj at b;cases g:c.ty s with
  |none=>rw[g]at b;cases b
  |some i=>
   cases l:c.ty t with
   |none=>rw[g,l]at b;cases b
   |some j=>
    rw[g,l]at b;simp only at b;obtain⟨D,u⟩:=q _ _ g;obtain⟨C,p⟩:=q _ _ l;split at b;·rename_i B r k3 n m k h;injection b with b;subst b;rw[h]at f;exact⟨.int r (r.wrap n),λw1 _=>by simp[execOp,z,f.int_inv,convert,run_underlying (u.int _ m),run_underlying (p.int _ k),Conv.intToInt],.rd _ _ (.int _ _)⟩
    ·rename_i s' m k h;injection b with b;subst b;rw[h]at f;obtain⟨y,e,A⟩:=f.str_inv;exact⟨.string y,λw1 _=>by simp[execOp,z,e,convert,run_underlying (u.str m),run_underlying (p.str k)],.rd _ _ (.str _ _ A)⟩
    ·cases b
theorem iJ {y:ByteArray}{s:List UInt8}(h:y.data.toList=s):y.size=s.length:=by rw[<-h,Array.length_toList];rfl
theorem Bv {b:BinOp}{k:IntKind}{p q:Int}{v:V}(h:wI b k p q=some v)(t:TypeId)(w:World):∃x,(∀w1,(binOp b t (.int k p) (.int k q)).run P w1 = .ok x w1)/\VR Γ w v x:=by
 cases b<;>simp only[wI,xz,Dy,Option.map_some,aK]at h
 case quo=>
  split at h;·cases h
  ·rename_i e;simp only[Option.map_some,aK]at h;subst h;exact⟨_,λw1=>by simp[binOp,Op.intDiv,e],.rd _ _ (.int _ _)⟩
 case rem=>
  split at h;·cases h
  ·rename_i e;simp only[aK]at h;subst h;exact⟨_,λw1=>by simp[binOp,Op.intDiv,e],.rd _ _ (.int _ _)⟩
 case and=>subst h;exact⟨.int k (mM .and k p q),λw1=>by simp only[binOp,ne_eq,not_true_eq_false,if_false];rfl,.rd _ _ (.int _ _)⟩
 case or=>subst h;exact⟨.int k (mM .or k p q),λw1=>by simp only[binOp,ne_eq,not_true_eq_false,if_false];rfl,.rd _ _ (.int _ _)⟩
 case xor=>subst h;exact⟨.int k (mM .xor k p q),λw1=>by simp only[binOp,ne_eq,not_true_eq_false,if_false];rfl,.rd _ _ (.int _ _)⟩
 all_goals first
  |(subst h;exact⟨_,λw1=>by simp[binOp,Op.intArith],.rd _ _ (.int _ _)⟩)
  |(subst h;exact⟨_,λw1=>by simp[binOp,Op.intCmp],.rd _ _ (.bool _)⟩)
  |(cases h)
theorem CM {e:BinOp}{p q:List UInt8}{x y:ByteArray}{v:V}(h:AL e p q=some v)(b:x.data.toList=p)(f:y.data.toList=q)(t:TypeId)(w:World) :
  ∃z,(∀w1,(binOp e t (.string x) (.string y)).run P w1 = .ok z w1)/\VR Γ w v z:=by
 have ex:=p9 b;have g:=p9 f;cases e<;>simp only[AL,aK]at h
 case add=>
  split at h
  ·rename_i i;simp only[aK]at h;subst h;have hs:(x.size:Int)+(y.size:Int)<=9223372036854775807:=by rw[iJ b,iJ f];omega
   refine⟨.string (x++y),λw1=>by simp[binOp,Op.stringOp];exact hs,.rd _ _ (.str _ _ ?_)⟩;rw[ByteArray.data_append,Array.toList_append,b,f]
  ·cases h
 all_goals first
  |(subst h;exact⟨_,λw1=>by simp[binOp,Op.stringOp,ex,g,yT],.rd _ _ (.bool _)⟩)
  |(cases h)
theorem yd (T:ay P c)(hs:Sim Γ st a w){o:Oper}{R:BinOp}{t X:TypeId}{x y:Operand}{v:V}(s:o.op = .binOp R t x y X)(h:aF c den (ev st.t) η d o.op=some (.val v)):bv P Γ a w o v:=by
 rw[s]at h;simp only[aF,plain]at h;cases Q:c.ty t with
 |none=>rw[Q]at h;cases h
 |some i=>
  rw[Q]at h;simp only at h;cases b:vb i R (ev st.t x) (ev st.t y)with
  |none=>rw[b]at h;cases h
  |some u=>
   rw[b]at h;simp only[aK,Out.val.injEq]at h;subst h;obtain⟨ti,K⟩:=T _ _ Q;have m:=hs.ev x;have n:=hs.ev y;unfold vb at b;split at b
   ·rename_i p q E A;rw[E]at m;rw[A]at n;have g:=m.bool_inv;have l:=n.bool_inv;split at b;·rename_i N;injection b with b;subst b;exact⟨.bool (p==q),λw1 _=>by simp[execOp,s,g,l,eqGuard,binOp,Op.equal,Op.maxDepth,run_equalIn_bool' (P:=P) w1 9999 t p q (K.bool N)],.rd _ _ (.bool _)⟩
    ·rename_i N;injection b with b;subst b;exact⟨.bool (!(p==q)),λw1 _=>by simp[execOp,s,g,l,eqGuard,binOp,Op.equal,Op.maxDepth,run_equalIn_bool' (P:=P) w1 9999 t p q (K.bool N)],.rd _ _ (.bool _)⟩
    ·cases b
   ·rename_i k p Y q E A;rw[E]at m;rw[A]at n;have g:=m.int_inv;have l:=n.int_inv;split at b
    ·split at b;·cases b
     ·rename_i U;simp only[aK]at b;subst b;exact⟨.int k (yq k p q),λw1 _=>by simp[execOp,s,g,l,eqGuard,binOp,Op.shift,U,yq],.rd _ _ (.int _ _)⟩
    ·split at b;·rename_i S;subst S;obtain⟨z,L,B⟩:=Bv (P:=P) (Γ:=Γ) b t w;exact⟨z,λw1 _=>by simp[execOp,s,g,l,eqGuard,L],B⟩
     ·cases b
   ·rename_i p q E A;rw[E]at m;rw[A]at n;obtain⟨x1,g,J⟩:=m.str_inv;obtain⟨Z,l,W⟩:=n.str_inv;obtain⟨z,L,B⟩:=CM (P:=P) (Γ:=Γ) b J W t w;exact⟨z,λw1 _=>by simp[execOp,s,g,l,eqGuard,L],B⟩
   ·rename_i p q E A;rw[E]at m;rw[A]at n;obtain⟨xs,g,G,F⟩:=m.agg_inv;obtain⟨ys,l,H,I⟩:=n.agg_inv;have f:∀{v:V} {z:Value},VR Γ w v z->tV v z:=by
     intro v z B;cases v<;>simp only[tV];·exact B.bool_inv
     ·exact B.int_inv
     ·exact B.str_inv
    split at b;·rename_i r e O;injection b with b;subst b;simp only[Bool.and_eq_true]at e;obtain⟨M,J⟩:=K.cmp e.1.1;have:=λw1=>J w1 xs ys p q r G H e.1.2 e.2 (λj u z C D=>f (F j u z C D)) (λj u z C D=>f (I j u z C D)) O;exact⟨.bool r,λw1 _=>by simp[execOp,s,g,l,run_eqGuard_agg w1 _ t x y xs ys M,run_eql_struct,this],.rd _ _ (.bool _)⟩
    ·rename_i r e O;injection b with b;subst b;simp only[Bool.and_eq_true]at e;obtain⟨M,J⟩:=K.cmp e.1.1;have:=λw1=>J w1 xs ys p q r G H e.1.2 e.2 (λj u z C D=>f (F j u z C D)) (λj u z C D=>f (I j u z C D)) O;exact⟨.bool (!r),λw1 _=>by simp[execOp,s,g,l,run_eqGuard_agg w1 _ t x y xs ys M,run_neq_struct,this],.rd _ _ (.bool _)⟩
    ·cases b
   ·cases b
theorem Rows.cell {S:Nat->Prop}{s:Nat}{xs:List V}{k o:Nat}(h:Rows w S s xs k o){i:Nat}{x:V}(b:xs[i]?=some x):x.cells.length=s /\ ∃g:Nat->Value,(∀j:Nat,j<x.cells.length->w.cell? ⟨k,o+i*s+j,none⟩=some (g j)/\(g j).oneCell'=true) /\
  ∀(j:Nat) (u:V),x.cells[j]?=some u->Rd w S u (g j):=by obtain⟨m,g,n,p⟩:=h;have e:=m x (aA b);have f:i<xs.length:=(bW b).1;exact⟨e,g i,λj q=>n i j f (by omega),λj u l=>p i x j u b l⟩
theorem jh {q:Q}{k:Nat}(h:Γ.Sq q k):Γ.S k:=by
 cases q with
 |any=>exact h
 |flat=>exact h.1
 |clean=>exact h.1
theorem sU {v u:V}{x:Value}{n:Nat}(h:VR Γ w v x)(f:jk v n=some u):∃(k o:Nat),x = .pointer (some ⟨k,o,none⟩)/\VR Γ w u (.pointer (some ⟨k,o+n,none⟩)):=by
 cases v with
 |ptr z m =>simp only[jk,aK]at f;subst f;obtain⟨e,t⟩:=h.ptr_inv;exact⟨_,_,e,.ptr z (m+n) t⟩
 |iptr y m =>simp only[jk,aK]at f;subst f;obtain⟨k,o,g,e,l,p,j⟩:=h.iptr_inv;have:=Rd.iptr (w:=w) (S:=Γ.S) y k o (m+n) g l p j;rw[<-Nat.add_assoc]at this;exact⟨k,o+m,e,.rd _ _ this⟩
 |vptr b y m =>simp only[jk,aK]at f;subst f;obtain⟨o,g,e,l,p,j⟩:=h.vptr_inv;have:=VR.vptr (Γ:=Γ) (w:=w) b y o (m+n) g l p j;rw[<-Nat.add_assoc]at this;exact⟨_,o+m,e,this⟩
 |eptr b s q xs i m =>simp only[jk,aK]at f;subst f;obtain⟨e,l,p,j,B,A,r⟩:=h.eptr_inv;have:=VR.eptr (Γ:=Γ) (w:=w) b s q xs i (m+n) l p j B A r h.eptr_uq;rw[<-Nat.add_assoc]at this;exact⟨_,_,e,this⟩
 |_=>cases f
theorem BS {v u:V}{x:Value}{s:Nat}{n:Int}(h:VR Γ w v x)(i:m_ s v n=some u):0<=n /\ ∃(k o r l:Nat),x = .slice (some ⟨k,o,none⟩) r l/\n<r/\VR Γ w u (.pointer (some ⟨k,o+n.toNat*s,none⟩)):=by
 unfold m_ at i;split at i;·cases i
 rename_i M;refine⟨by omega,?_⟩;cases v with
 |sl s' f xs=>
  simp only at i;split at i
  ·rename_i hs;subst hs;cases m:xs[n.toNat]? with
   |none=>rw[m]at i;cases i
   |some y=>
    rw[m]at i;simp only[Option.map_some,aK]at i;subst i;have p:n.toNat<xs.length:=(bW m).1;have t:=h.sl_inv;cases t with
    |empty=>simp at p
    |sl _ _ _ k o l g H E J z Q K t =>have O:=z y (aA m);have:=Rd.iptr (w:=w) (S:=Γ.S) y k (o+n.toNat*s') 0 (g n.toNat) J (λj D=>(K n.toNat j p (by omega)).1) (λj u i=>t n.toNat y j u m i);exact⟨k,o,_,l,rfl,by omega,.rd _ _ this⟩
  ·cases i
 |view b s' q xs=>
  simp only at i;split at i
  ·rename_i hs;subst hs;cases m:xs[n.toNat]? with
   |none=>rw[m]at i;cases i
   |some y=>
    rw[m]at i;simp only[Option.map_some,aK]at i;subst i;have p:n.toNat<xs.length:=(bW m).1;rcases h.view_inv with⟨_,_,_,e⟩|⟨o,l,e,A,_,H,F,t,N⟩;·subst e;simp at p
    ·obtain⟨z,g,B,C⟩:=t.cell m;have:=VR.vptr (Γ:=Γ) (w:=w) b y (o+n.toNat*s') 0 g A (λj D=>(B j D).1) (λj u i=>(C j u i).mono (λk G=>jh G) (λ_ _ _=>rfl));exact⟨_,o,_,l,e,by omega,this⟩
  ·cases i
 |own b s' q xs=>
  simp only at i;split at i
  ·rename_i hs;subst hs;split at i
   ·rename_i p;injection i with i;subst i;rcases h.own_inv with⟨_,e,_⟩|⟨e,A,L,B,C,I⟩;·subst e;simp at p
    ·exact⟨_,_,_,_,e,by omega,VR.eptr (Γ:=Γ) (w:=w) b s' q xs n.toNat 0 A L B p C I h.own_uq⟩
   ·cases i
  ·cases i
 |_=>cases i
theorem oz (hs:Sim Γ st a w){v:V}{x:Value}{cs:List V}(h:VR Γ w v x)(f:dR (λb=>st.h.getD b none) v=some cs) :
  ∃(k o:Nat) (g:Nat->Value),x = .pointer (some ⟨k,o,none⟩)/\(∀j:Nat,j<cs.length->w.cell? ⟨k,o+j,none⟩=some (g j)) /\ ∀(j:Nat) (u:V),cs[j]?=some u->VR Γ w u (g j):=by
 cases v with
 |ptr z m=>
  simp only[dR]at f;cases n:st.h.getD z none with
  |none=>rw[n]at f;cases f
  |some r=>
   rw[n]at f;simp only[Option.map_some,aK]at f;subst f;have F:st.h[z]?=some (some r):=by
    simp only[List.getD]at n;cases J:st.h[z]? with
    |none=>rw[J]at n;cases n
    |some y=>rw[J]at n;simp only[Option.getD_some]at n;rw[n]
   obtain⟨_,t,e,A,H,L⟩:=hs.bx z r F;refine⟨Γ.box z,m,λj=>t.getD (m+j) undef,h.ptr_inv.1,λj p=>?_,λj u l=>?_⟩
   ·rw[List.length_drop]at p;have B:m+j<t.size:=by omega
    simp[World.cell?,A,B,Array.getD_eq_getD_getElem?,Array.getElem?_eq_getElem B]
   ·rw[List.getElem?_drop]at l;obtain⟨y,N,G⟩:=L _ _ l;simp only[Array.getD_eq_getD_getElem?,N];exact G
 |iptr y m=>
  simp only[dR,aK]at f;subst f;obtain⟨k,o,g,e,I,C,D⟩:=h.iptr_inv;refine⟨k,o+m,λj=>g (m+j),e,λj p=>?_,λj u l=>?_⟩;·rw[List.length_drop]at p;have:=C (m+j) (by omega);rwa[<-Nat.add_assoc]at this
  ·rw[List.getElem?_drop]at l;exact .rd _ _ (D _ _ l)
 |vptr b y m=>
  simp only[dR,aK]at f;subst f;obtain⟨o,g,e,I,C,D⟩:=h.vptr_inv;refine⟨_,o+m,λj=>g (m+j),e,λj p=>?_,λj u l=>?_⟩;·rw[List.length_drop]at p;have:=C (m+j) (by omega);rwa[<-Nat.add_assoc]at this
  ·rw[List.getElem?_drop]at l;exact .rd _ _ (D _ _ l)
 |eptr b s q xs i m=>
  simp only[dR]at f;cases E:xs[i]? with
  |none=>rw[E]at f;cases f
  |some y=>
   rw[E]at f;simp only[Option.map_some,aK]at f;subst f;obtain⟨e,I,C,D,S,M,R⟩:=h.eptr_inv;obtain⟨H,g,O,Q⟩:=M.cell E;refine⟨_,Γ.off b+i*s+m,λj=>g (m+j),e,λj p=>?_,λj u l=>?_⟩;·rw[List.length_drop]at p;have:=(O (m+j) (by omega)).1;rwa[<-Nat.add_assoc]at this
   ·rw[List.getElem?_drop]at l;exact .rd _ _ ((Q _ _ l).mono (λk K=>jh K) (λ_ _ _=>rfl))
 |_=>cases f
theorem we {i:TyInfo}{M:TypeInfo}{t:Nat}(r:AgreeT P c t i M){cs:List V}{v:V}{k o:Nat}{g:Nat->Value}(h:lP i.d.isAgg i.size cs=some v)
  (F:∀j:Nat,j<cs.length->w.cell? ⟨k,o+j,none⟩=some (g j)) (E:∀(j:Nat) (u:V),cs[j]?=some u->VR Γ w u (g j)) :
  ∃x,(∀w1:World,w1.heap[k]?=w.heap[k]?->(loadVar t ⟨k,o,none⟩).run P w1 = .ok x w1)/\VR Γ w v x:=by
 unfold lP at h;split at h;·cases h
 rename_i G;have q:∀j,(⟨k,o,none⟩:Addr).add j=⟨k,o+j,none⟩:=by intro j;unfold Addr.add;split<;>simp_all
 split at h
 ·rename_i b;injection h with h;subst h;have J:∃p,P.underlying t=some p/\((∃fs,p = .struct fs)\/(∃n e,p = .array n e)):=by
   cases z:i.d with
   |struct fs=>obtain⟨f,l,_⟩:=r.struct fs z;exact⟨_,l,.inl ⟨_,rfl⟩⟩
   |array n e=>exact⟨_,r.array n e z,.inr ⟨_,_,rfl⟩⟩
   |_=>rw[z]at b;cases b
  obtain⟨p,m,H⟩:=J;refine⟨.agg ((List.range i.size).map g).toArray,λw1 l=>?_,.agg _ _ (by simp;omega) ?_⟩;·have I:=run_loadCells (P:=P) w1 ⟨k,o,none⟩ i.size g (λj C=>by rw[q,cell?_of_heap l];exact F j (by omega));rcases H with⟨fs,rfl⟩|⟨n,e,rfl⟩<;>simp[loadVar,isAgg,run_underlying m,sizeOf,typeInfo,r.info,r.size,I]
  ·intro j u y l D;rw[List.getElem?_take]at l;split at l
   ·rename_i C;have:y=g j:=by simp only[List.getElem?_toArray,List.getElem?_map,List.getElem?_range C,Option.map_some,aK]at D;exact D.symm
    subst this;exact E j u l
   ·cases l
 ·rename_i b;split at h
  ·rename_i l;obtain⟨p,m,K,L⟩:=r.agg (by simpa using b);cases cs with
   |nil=>cases h
   |cons u B=>
    simp only[List.head?_cons,aK]at h;subst h;have s:=F 0 (by simp);simp only[Nat.add_zero]at s;refine⟨g 0,λw1 A=>?_,E 0 u rfl⟩;rw[<-cell?_of_heap A]at s;simp only[loadVar,isAgg,Sem.run_bind,run_underlying m,Result.andThen_ok];cases p with
    |struct fs=>exact absurd rfl (K fs)
    |array n e=>exact absurd rfl (L n e)
    |_=>simp[s]
  ·cases h
theorem CE (p:ay P c)(hs:Sim Γ st a w){o:Oper}{t:TypeId}{x:Operand}{v:V}(n:o.op = .load t x)(h:aF c den (ev st.t) (λb=>st.h.getD b none) d o.op=some (.val v)):bv P Γ a w o v:=by
 rw[n]at h;simp only[aF,plain,pS]at h;cases m:c.ty t with
 |none=>rw[m]at h;cases h
 |some i=>
  rw[m]at h;simp only at h;cases j:dR (λb=>st.h.getD b none) (ev st.t x)with
  |none=>rw[j]at h;cases h
  |some cs=>
   rw[j]at h;simp only at h;cases l:lP i.d.isAgg i.size cs with
   |none=>rw[l]at h;cases h
   |some u =>rw[l]at h;simp only[aK,Out.val.injEq]at h;subst h;obtain⟨B,s⟩:=p _ _ m;obtain⟨k,C,g,e,A,r⟩:=oz hs (hs.ev x) j;obtain⟨y,z,q⟩:=we s l A r;exact⟨y,λw1 f=>by simp[execOp,n,e,Instr.loadAt,Instr.sureAddr,z w1 (by unfold LdOk at f;rw[n]at f;exact f _ _ e)],q⟩
theorem pZ (r:ay P c)(hs:Sim Γ st a w){o:Oper}{t:TypeId}{x:Operand}{f:Nat}{v:V}(B:o.op = .fieldAddr t x f)(h:aF c den (ev st.t) η d o.op=some (.val v)):bv P Γ a w o v:=by
 rw[B]at h;simp only[aF,plain]at h;split at h
 ·rename_i fs M G z L J F K;split at h
  ·rename_i off E g;split at h
   ·rename_i j H;split at h;·cases h
    ·rename_i n;split at h
     ·rename_i u D;simp only[aK,Out.val.injEq]at h;subst h;obtain⟨O,I⟩:=r _ _ K;obtain⟨N,A⟩:=r _ _ H;obtain⟨b,p,i,_⟩:=I.struct fs rfl;obtain⟨k,s,e,C⟩:=sU (hs.ev x) D;have l:∃fl,b[f]?=some fl/\fl.offset=off/\fl.type=E:=by
       rw[<-i,List.getElem?_map,Array.getElem?_toList]at g;cases y:b[f]? with
       |none=>rw[y]at g;cases g
       |some fl=>rw[y]at g;simp only[Option.map_some,aK,Prod.mk.injEq]at g;exact⟨fl,rfl,g.1,g.2⟩
      obtain⟨fl,q,rfl,rfl⟩:=l;have m:(⟨k,s,none⟩:Addr).add fl.offset=⟨k,s+fl.offset,none⟩:=by unfold Addr.add;split<;>simp_all
      exact⟨_,λw1 _=>by simp[execOp,B,e,Instr.fieldAt,run_underlying p,q,Instr.sureAddr,fieldPlace,sizeOf,typeInfo,A.info,A.size,n,m],C⟩
     ·cases h
   ·cases h
  ·cases h
 ·cases h
end
end Go.Am
end
section
namespace Go.Am
open Go Go.RowKit
section
variable {P:Program}{c:Cfg}{Γ:Ctx}{st:St}{a:Act}{w:World}{den:Nat->List V->Option V}{η:Nat->Option V}{d:Nat}
theorem AG {i:TyInfo}{C:TypeInfo}{t:Nat}(m:AgreeT P c t i C){cs:List V}{vs:Array Value}{off:Nat}{v:V}(F:cs.length=vs.size)
  (s:∀(j:Nat) (u:V) (y:Value),cs[j]?=some u->vs[j]?=some y->VR Γ w u y) (g:lP i.d.isAgg i.size (cs.drop off)=some v) :
  ∃x,(∀w1:World,(part t vs off).run P w1 = .ok x w1)/\VR Γ w v x:=by
 unfold lP at g;split at g;·cases g
 rename_i p;rw[List.length_drop]at p;split at g
 ·rename_i b;injection g with g;subst g;have B:∃l,P.underlying t=some l/\((∃fs,l = .struct fs)\/(∃n e,l = .array n e)):=by
   cases r:i.d with
   |struct fs=>obtain⟨f,h,_⟩:=m.struct fs r;exact⟨_,h,.inl ⟨_,rfl⟩⟩
   |array n e=>exact⟨_,m.array n e r,.inr ⟨_,_,rfl⟩⟩
   |_=>rw[r]at b;cases b
  obtain⟨l,k,A⟩:=B;refine⟨.agg (vs.extract off (off+i.size)),λw1=>?_,.agg _ _ (by simp;omega) ?_⟩;·rcases A with⟨fs,rfl⟩|⟨n,e,rfl⟩<;>simp[part,isAgg,run_underlying k,sizeOf,typeInfo,m.info,m.size]
  ·intro j u y h q;rw[List.getElem?_take]at h;split at h
   ·rename_i G;rw[List.getElem?_drop]at h;rw[Array.getElem?_extract]at q;split at q;·exact s _ u y h q
    ·cases q
   ·cases h
 ·rename_i b;split at g
  ·rename_i h;obtain⟨l,k,E,z⟩:=m.agg (by simpa using b);have o:off<vs.size:=by omega
   have D:cs[off]?=some v:=by
    have:(cs.drop off)[0]?=some v:=by rw[<-List.head?_eq_getElem?];exact g
    rwa[List.getElem?_drop,Nat.add_zero]at this
   refine⟨vs[off],λw1=>?_,s off v _ D (Array.getElem?_eq_getElem o)⟩;simp only[part,isAgg,Sem.run_bind,run_underlying k,Result.andThen_ok];cases l with
   |struct fs=>exact absurd rfl (E fs)
   |array n e=>exact absurd rfl (z n e)
   |_=>simp[Array.getElem?_eq_getElem o]
  ·cases g
theorem yg (p:ay P c)(hs:Sim Γ st a w){o:Oper}{t:TypeId}{x:Operand}{f:Nat}{v:V}(r:o.op = .field t x f)(h:aF c den (ev st.t) η d o.op=some (.val v)):bv P Γ a w o v:=by
 rw[r]at h;simp only[aF,plain]at h;split at h
 ·rename_i fs O F z N L E M;split at h
  ·rename_i off D cs g s;split at h
   ·rename_i j H;split at h
    ·rename_i u C;simp only[aK,Out.val.injEq]at h;subst h;obtain⟨R,K⟩:=p _ _ M;obtain⟨Q,J⟩:=p _ _ H;obtain⟨b,m,i,_⟩:=K.struct fs rfl;have l:=hs.ev x;rw[s]at l;obtain⟨vs,e,B,I⟩:=l.agg_inv;have k:∃fl,b[f]?=some fl/\fl.offset=off/\fl.type=D:=by
      rw[<-i,List.getElem?_map,Array.getElem?_toList]at g;cases q:b[f]? with
      |none=>rw[q]at g;cases g
      |some fl=>rw[q]at g;simp only[Option.map_some,aK,Prod.mk.injEq]at g;exact⟨fl,rfl,g.1,g.2⟩
     obtain⟨fl,n,rfl,rfl⟩:=k;obtain⟨y,G,A⟩:=AG (P:=P) (w:=w) J B I C;exact⟨y,λw1 _=>by simp[execOp,r,e,Instr.field,run_underlying m,n,asAgg,G],A⟩
    ·cases h
   ·cases h
  ·cases h
 ·cases h
theorem pc (r:ay P c)(hs:Sim Γ st a w){o:Oper}{t:TypeId}{x y:Operand}{v:V}(D:o.op = .indexAddr t x y)(h:aF c den (ev st.t) η d o.op=some (.val v)):bv P Γ a w o v:=by
 rw[D]at h;simp only[aF,plain]at h;split at h
 ·rename_i i k n L J;obtain⟨M,F⟩:=r _ _ L;have p:=hs.ev y;rw[J]at p;have E:=p.int_inv;split at h
  ·rename_i e B;split at h
   ·rename_i j A;split at h
    ·rename_i u z;simp only[aK,Out.val.injEq]at h;subst h;obtain⟨K,l⟩:=r _ _ A;obtain⟨H,f,g,I,G,ex,C,s⟩:=BS (hs.ev x) z;have b:(⟨f,g,none⟩:Addr).add (n.toNat*j.size)=⟨f,g+n.toNat*j.size,none⟩:=by unfold Addr.add;split<;>simp_all
     exact⟨_,λw1 _=>by simp[execOp,D,ex,E,Instr.indexAt,asIntOf,run_underlying (F.slice _ B),H,C,sizeOf,typeInfo,l.info,l.size,b],s⟩
    ·cases h
   ·cases h
  ·rename_i m e B;split at h
   ·rename_i j A;split at h
    ·rename_i q;split at h
     ·rename_i u z;simp only[aK,Out.val.injEq]at h;subst h;obtain⟨K,l⟩:=r _ _ A;obtain⟨f,g,ex,s⟩:=sU (hs.ev x) z;have b:(⟨f,g,none⟩:Addr).add (n.toNat*j.size)=⟨f,g+n.toNat*j.size,none⟩:=by unfold Addr.add;split<;>simp_all
      exact⟨_,λw1 _=>by simp[execOp,D,ex,E,Instr.indexAt,asIntOf,run_underlying (F.array _ _ B),Instr.sureAddr,q,sizeOf,typeInfo,l.info,l.size,b],s⟩
     ·cases h
    ·cases h
   ·cases h
  ·cases h
 ·cases h
theorem yh (G:ay P c)(hs:Sim Γ st a w){o:Oper}{t:TypeId}{x y:Operand}{v:V}(F:o.op = .index t x y)(h:aF c den (ev st.t) η d o.op=some (.val v)):bv P Γ a w o v:=by
 rw[F]at h;simp only[aF,plain]at h;split at h
 ·rename_i i k n R N;obtain⟨U,J⟩:=G _ _ R;have g:=hs.ev y;rw[N]at g;have I:=g.int_inv;split at h
  ·rename_i s D q;split at h;·cases h
   ·rename_i S;split at h
    ·rename_i b p;simp only[aK,Out.val.injEq]at h;subst h;have f:=hs.ev x;rw[q]at f;obtain⟨z,ex,l⟩:=f.str_inv;have H:n.toNat<z.size:=by rw[iJ l];exact(bW p).1
     have B:z[n.toNat]?=some b:=by rw[getElem?_pos z n.toNat H];subst l;rw[Array.getElem?_toList]at p;have A:n.toNat<z.data.size:=H;rw[Array.getElem?_eq_getElem A]at p;exact p
     have E:0<=n:=by omega
     exact⟨.int .u8 b.toNat,λw1 _=>by simp[execOp,F,ex,I,Instr.index,asIntOf,run_underlying (J.str D),E,B],.rd _ _ (.int _ _)⟩
    ·cases h
  ·rename_i m e cs D q;split at h
   ·rename_i j O;split at h
    ·rename_i r;split at h;·rename_i u M;simp only[aK,Out.val.injEq]at h;subst h;obtain⟨T,C⟩:=G _ _ O;have f:=hs.ev x;rw[q]at f;obtain⟨vs,ex,L,Q⟩:=f.agg_inv;obtain⟨z,l,K⟩:=AG (P:=P) (w:=w) C L Q M;exact⟨z,λw1 _=>by simp[execOp,F,ex,I,Instr.index,asIntOf,run_underlying (J.array _ _ D),r,sizeOf,typeInfo,C.info,C.size,l],K⟩
     ·cases h
    ·cases h
   ·cases h
  ·cases h
 ·cases h
theorem I6 {v:V}{x:Value}{n:Nat}(h:VR Γ w v x)(g:B6 v=some n):∃k i,x = .slice k n i:=by
 cases v with
 |nil =>simp only[B6,aK]at g;subst g;exact⟨_,_,h.nil_inv⟩
 |sl s f xs=>
  simp only[B6,aK]at g;subst g;have j:=h.sl_inv;cases j with
  |empty=>exact⟨_,_,rfl⟩
  |sl=>exact⟨_,_,rfl⟩
 |own b s q xs=>
  simp only[B6,aK]at g;subst g;rcases h.own_inv with⟨e,rfl,_⟩|⟨e,_⟩;·exact⟨_,_,e⟩
  ·exact⟨_,_,e⟩
 |view b s q xs=>
  simp only[B6,aK]at g;subst g;rcases h.view_inv with⟨_,_,e,rfl⟩|⟨_,_,e,_⟩;·exact⟨_,_,e⟩
  ·exact⟨_,_,e⟩
 |_=>cases g
theorem Wm {α:Type}{l:Array α}{x:α}(h:l.toList=[x]):l = #[x]:=by cases l;simp_all
theorem BW {α:Type}{l:Array α}{x y:α}(h:l.toList=[x,y]):l = #[x,y]:=by cases l;simp_all
theorem FO (q:ay P c)(hs:Sim Γ st a w){o:Oper}{args:Array Operand}{A:Array TypeId}{v:V}(j:o.op = .call ⟨.builtin .len,args,A⟩)(h:aF c den (ev st.t) η d o.op=some (.val v)):bv P Γ a w o v:=by
 rw[j]at h;simp only[aF,plain]at h;split at h
 ·rename_i x t l z;have B:=Wm l;have p:=Wm z;subst B;subst p;split at h
  ·rename_i i r;obtain⟨C,k⟩:=q _ _ r;split at h
   ·rename_i f;split at h;·rename_i s g;simp only[aK,Out.val.injEq]at h;subst h;have b:=hs.ev x;rw[g]at b;obtain⟨y,e,u⟩:=b.str_inv;exact⟨.int .i64 s.length,λw1 _=>by simp[execOp,j,resolve,invoke,builtin,Builtin.len_,run_underlying (k.str f),e,iJ u,goInt],.rd _ _ (.int _ _)⟩
    ·cases h
   ·rename_i e f;split at h;·rename_i n g;simp only[aK,Out.val.injEq]at h;subst h;obtain⟨D,m,ex⟩:=I6 (hs.ev x) g;exact⟨.int .i64 n,λw1 _=>by simp[execOp,j,resolve,invoke,builtin,Builtin.len_,run_underlying (k.slice _ f),ex,goInt],.rd _ _ (.int _ _)⟩
    ·cases h
   ·cases h
  ·cases h
 ·cases h
theorem FQ (hs:Sim Γ st a w){o:Oper}{args:Array Operand}{m:Array TypeId}{v:V}(f:o.op = .call ⟨.builtin .min,args,m⟩)(h:aF c den (ev st.t) η d o.op=some (.val v)):bv P Γ a w o v:=by
 rw[f]at h;simp only[aF,plain]at h;split at h
 ·rename_i x y i;have b:=BW i;subst b;split at h
  ·rename_i k p n q b j;split at h;·rename_i l;subst l;simp only[aK,Out.val.injEq]at h;subst h;have g:=hs.ev x;have e:=hs.ev y;rw[b]at g;rw[j]at e;exact⟨_,λw1 _=>by simp[execOp,f,resolve,invoke,builtin,Builtin.min_,Builtin.min2,g.int_inv,e.int_inv],.rd _ _ (.int _ _)⟩
   ·cases h
  ·cases h
 ·cases h
theorem FP (hs:Sim Γ st a w){o:Oper}{args:Array Operand}{m:Array TypeId}{v:V}(f:o.op = .call ⟨.builtin .max,args,m⟩)(h:aF c den (ev st.t) η d o.op=some (.val v)):bv P Γ a w o v:=by
 rw[f]at h;simp only[aF,plain]at h;split at h
 ·rename_i x y i;have b:=BW i;subst b;split at h
  ·rename_i k p n q b j;split at h;·rename_i l;subst l;simp only[aK,Out.val.injEq]at h;subst h;have g:=hs.ev x;have e:=hs.ev y;rw[b]at g;rw[j]at e;exact⟨_,λw1 _=>by simp[execOp,f,resolve,invoke,builtin,Builtin.max_,Builtin.max2,g.int_inv,e.int_inv],.rd _ _ (.int _ _)⟩
   ·cases h
  ·cases h
 ·cases h
theorem gA {hs:Sim Γ st a w}{n m:Nat}{x q:Option Operand}{l h:Nat}(b:rq n (x.map (ev st.t)) (q.map (ev st.t))=some (l,h))(F:n<=m)(v:Bool)(e:Nat)(C:n<=e) :
  l<=h/\h<=n /\ ∀w1,(Instr.sliceBounds v n e (x.map a.eval) (q.map a.eval) none).run P w1 = .ok (l,h,e) w1:=by
 unfold rq at b;have g:∀(L H:Int),(if 0<=L/\L<=H/\H<=n then some (L.toNat,H.toNat)else none)=some (l,h)->0<=L/\L<=H/\H<=n/\l=L.toNat/\h=H.toNat:=by
  intro L H p;split at p;·rename_i hh;injection p with p;injection p with o r;exact⟨hh.1,hh.2.1,hh.2.2,o.symm,r.symm⟩
  ·cases p
 cases x with
 |none=>
  cases q with
  |none =>simp only[Option.map_none]at b;obtain⟨o,r,u,rfl,rfl⟩:=g _ _ b;exact⟨by omega,by omega,λw1=>by simp[Instr.sliceBounds]⟩
  |some y=>
   simp only[Option.map_none,Option.map_some]at b;cases j:ev st.t y with
   |int k H=>
    rw[j]at b;obtain⟨o,r,u,rfl,rfl⟩:=g _ _ b;have f:=hs.ev y;rw[j]at f;have:H<=(e:Int):=by omega
    have A:0<=H:=by omega
    exact⟨by omega,by omega,λw1=>by simp[Instr.sliceBounds,Instr.sliceBound,f.int_inv,asIntOf,this,A]⟩
   |_=>rw[j]at b;cases b
 |some z=>
  cases s:ev st.t z with
  |int E L=>
   have i:=hs.ev z;rw[s]at i;cases q with
   |none =>simp only[Option.map_none,Option.map_some,s]at b;obtain⟨o,r,u,rfl,hh⟩:=g _ _ b;simp only[Int.toNat_natCast]at hh;subst hh;exact⟨by omega,by omega,λw1=>by simp[Instr.sliceBounds,Instr.sliceBound,i.int_inv,asIntOf,o];intro B;exfalso;omega⟩
   |some y=>
    simp only[Option.map_some,s]at b;cases j:ev st.t y with
    |int k H=>
     rw[j]at b;obtain⟨o,r,u,rfl,rfl⟩:=g _ _ b;have f:=hs.ev y;rw[j]at f;have D:H<=(e:Int):=by omega
     have A:0<=H:=by omega
     exact⟨by omega,by omega,λw1=>by simp[Instr.sliceBounds,Instr.sliceBound,f.int_inv,i.int_inv,asIntOf,D,A,o];intro B;exfalso;omega⟩
    |_=>rw[j]at b;cases b
  |_=>cases q<;>(simp only[Option.map_some,Option.map_none,s]at b;cases b)
theorem Rows.sub {S:Nat->Prop}{s:Nat}{xs:List V}{k o l h:Nat}(e:Rows w S s xs k o)(f:l<=h)(hh:h<=xs.length):Rows w S s ((xs.take h).drop l) k (o+l*s):=by
 obtain⟨t,g,q,m⟩:=e;refine⟨λx b=>t x (List.mem_of_mem_take (List.mem_of_mem_drop b)),λi j=>g (l+i) j,λi j n r=>?_,λi x j u b p=>?_⟩;·rw[List.length_drop,List.length_take,Nat.min_eq_left hh]at n;have:=q (l+i) j (by omega) r;rw[Nat.add_mul,<-Nat.add_assoc]at this;exact this
 ·rw[List.getElem?_drop,List.getElem?_take]at b;split at b;·exact m _ x j u b p
  ·cases b
theorem TrRows.sub {N:Nat->Prop}{s:Nat}{xs:List V}{k o l h:Nat}(f:TrRows w N s xs k o)(hh:h<=xs.length):TrRows w N s ((xs.take h).drop l) k (o+l*s):=by
 obtain⟨g,T,e,p,v,t⟩:=f;refine⟨λi j=>g (l+i) j,λi j=>T (l+i) j,λi j q z=>?_,λi x j u b r=>?_,λi j B C m A e=>?_,λi j m y=>t _ _ m y⟩;·rw[List.length_drop,List.length_take,Nat.min_eq_left hh]at q;have:=e (l+i) j (by omega) z;rw[Nat.add_mul,<-Nat.add_assoc]at this;exact this
 ·rw[List.getElem?_drop,List.getElem?_take]at b;split at b;·exact p _ x j u b r
  ·cases b
 ·obtain⟨D,n⟩:=v _ _ _ _ m A e;exact⟨by omega,n⟩
theorem Oj {q:Q}{b s:Nat}{xs:List V}{k o l h:Nat}(g:Γ.Uq w q b s xs k o)(hh:h<=xs.length):Γ.Uq w q b s ((xs.take h).drop l) k (o+l*s):=λe f=>(g e f).sub hh
theorem flatOk.sub {q:Q}{xs:List V}{l h:Nat}(f:flatOk q xs):flatOk q ((xs.take h).drop l):=λe x b=>f e x (List.mem_of_mem_take (List.mem_of_mem_drop b))
theorem zl {α:Type}{xs:List α}{l h:Nat}(hh:h<=xs.length):((xs.take h).drop l).length=h-l:=by rw[List.length_drop,List.length_take,Nat.min_eq_left hh]
theorem AP {b s:Nat}{q:Q}{xs:List V}{o f l h:Nat}(i:Γ.has b)(r:xs.length<=f)(j:o+f*s<=Γ.off b+Γ.cap b*Γ.sz b/\f<=Γ.cap b)
  (n:Rows w (Γ.Sq q) s xs (Γ.blk b) o) (m:flatOk q xs) (k:Γ.Uq w q b s xs (Γ.blk b) o) (g:l<=h) (hh:h<=xs.length) :
  VR Γ w (.view b s q ((xs.take h).drop l)) (.slice (if f=l then some ⟨Γ.blk b,o,none⟩else some ⟨Γ.blk b,o+l*s,none⟩) (h-l) (f-l)):=by
 by_cases p:l=h
 ·subst p;have:(xs.take l).drop l=[]:=by rw[List.drop_eq_nil_iff,List.length_take];omega
  rw[this,Nat.sub_self];have t:l*s+(f-l)*s=f*s:=by rw[<-Nat.add_mul];congr 1;omega
  refine .view0 _ _ _ _ _ (.inr ⟨i,?_⟩);split;·refine⟨o,rfl,?_,by omega⟩;omega
  ·refine⟨o+l*s,rfl,?_,by omega⟩;omega
 ·rw[if_neg (by omega)];have e:=zl (l:=l) hh
  have:=VR.view (Γ:=Γ) (w:=w) b s q ((xs.take h).drop l) (o+l*s) (f-l) i (by omega) (by omega) (by
   have:l*s+(f-l)*s=f*s:=by rw[<-Nat.add_mul];congr 1;omega
   omega) (n.sub g hh) m.sub (Oj k hh)
  rwa[e]at this
theorem yi (hA:ay P c)(hs:Sim Γ st a w){o:Oper}{t:TypeId}{x:Operand}{lo hi mx:Option Operand}{v:V}(ho:o.op = .slice t x lo hi mx)(h:aF c den (ev st.t) η d o.op=some (.val v)):bv P Γ a w o v:=by
 rw[ho]at h;cases mx with
 |some m=>simp only[aF]at h;cases h
 |none=>
  simp only[aF,plain]at h;split at h
  ·rename_i i ht;obtain⟨ti,ai⟩:=hA _ _ ht;have z:=hs.ev x;split at h
   ·rename_i Z;split at h
    ·rename_i s T;rw[T]at z;obtain⟨y,e,hy⟩:=z.str_inv;split at h;·rename_i l k D;simp only[aK,Out.val.injEq]at h;subst h;obtain⟨G,C,B⟩:=gA (P:=P) (hs:=hs) D (Nat.le_refl _) false s.length (Nat.le_refl _);refine⟨.string (y.extract l k),λw1 _=>by simp[execOp,ho,e,Instr.sliceAt,Instr.slice,run_underlying (ai.str Z),iJ hy,B],.rd _ _ (.str _ _ ?_)⟩;subst hy;rw[ByteArray.data_extract,Array.toList_extract];simp[List.extract,List.drop_take]
     ·cases h
    ·cases h
   ·rename_i e Z;split at h
    ·rename_i j hj;obtain⟨tj,aj⟩:=hA _ _ hj;split at h
     ·rename_i u p;simp only[aK,Out.val.injEq]at h;subst h;have F:∀k L n,(⟨k,L,none⟩:Addr).add n=⟨k,L+n,none⟩:=by intro k L n;unfold Addr.add;split<;>simp_all
      have A:∀(H:Option Addr) (J r l k:Nat),a.eval x = .slice H J r->(∀w1,(Instr.sliceBounds true J r (lo.map a.eval) (hi.map a.eval) none).run P w1 = .ok (l,k,r) w1) ->
        ∀w1,LdOk a w w1 o->(execOp a.eval o).run P w1 = .ok (.value (.slice (if r=l then H else H.map (·.add (l*j.size))) (k-l) (r-l))) w1:=by
       intro H J r l k e B w1 _
       simp[execOp,ho,e,Instr.sliceAt,Instr.slice,run_underlying (ai.slice _ Z),B,sizeOf,typeInfo,aj.info,aj.size]
      cases M:ev st.t x with
      |nil=>
       rw[M]at z p;simp only[cut]at p;split at p
       ·rename_i lk D;obtain⟨l,k⟩:=lk;injection p with p;subst p;obtain⟨G,C,B⟩:=gA (P:=P) (hs:=hs) D (Nat.le_refl _) true 0 (Nat.le_refl _);obtain rfl:k=0:=by omega
        obtain rfl:l=0:=by omega
        exact⟨_,A _ _ _ _ _ z.nil_inv B,by simp;exact .rd _ _ .nil⟩
       ·cases p
      |sl s f xs=>
       rw[M]at z p;simp only[cut]at p;split at p
       ·rename_i E;subst E;split at p
        ·rename_i l k D;injection p with p;subst p;have I:=z.sl_inv;generalize N:a.eval x=ex at I;cases I with
         |empty _ _ H r=>
          obtain⟨G,C,B⟩:=gA (P:=P) (hs:=hs) D (Nat.le_refl _) true r (Nat.zero_le _);simp only[List.length_nil]at C B;obtain rfl:k=0:=by omega
          obtain rfl:l=0:=by omega
          exact⟨_,A _ _ _ _ _ N B,by simpa using VR.rd _ _ (Rd.empty _ _ _ _)⟩
         |sl _ _ _ kk L r g K O hS W hf hg I=>
          obtain⟨G,C,B⟩:=gA (P:=P) (hs:=hs) D (Nat.le_refl _) true r O;refine⟨_,A _ _ _ _ _ N B,?_⟩;simp only[Option.map_some,F];by_cases R:l=k
          ·subst R;have:(xs.take l).drop l=[]:=by rw[List.drop_eq_nil_iff,List.length_take];omega
           rw[this,Nat.sub_self];exact .rd _ _ (.empty _ _ _ _)
          ·rw[if_neg (by omega)];have e:=zl (l:=l) C;obtain⟨r1,r2,r3,r4⟩:=Rows.sub (w:=w) (S:=Γ.S) ⟨W,g,hg,I⟩ G C;have:=Rd.sl (w:=w) (S:=Γ.S) j.size f ((xs.take k).drop l) kk (L+l*j.size) (r-l) r2 (by omega) (by omega) hS r1 (λe x T=>hf e x (List.mem_of_mem_take (List.mem_of_mem_drop T))) r3 r4;rw[e]at this;exact .rd _ _ this
        ·cases p
       ·cases p
      |own b s q xs=>
       rw[M]at z p;simp only[cut]at p;split at p
       ·rename_i E;subst E;split at p
        ·rename_i l k D;injection p with p;subst p;rcases z.own_inv with⟨e,U,e0⟩|⟨e,X,e1,K,I,Y⟩
         ·subst U;obtain⟨G,C,B⟩:=gA (P:=P) (hs:=hs) D (Nat.le_refl _) true 0 (Nat.le_refl _);simp only[List.length_nil]at C B;obtain rfl:k=0:=by omega
          obtain rfl:l=0:=by omega
          exact⟨_,A _ _ _ _ _ e B,by simpa using VR.view0 _ _ _ _ _ (.inl ⟨rfl,rfl,e0⟩)⟩
         ·obtain⟨G,C,B⟩:=gA (P:=P) (hs:=hs) D (Nat.le_refl _) true (Γ.cap b) K.1;refine⟨_,A _ _ _ _ _ e B,?_⟩;simp only[Option.map_some,F];exact AP X K.1 ⟨by rw[e1];exact Nat.le_refl _,Nat.le_refl _⟩ I Y z.own_uq G C
        ·cases p
       ·cases p
      |view b s q xs=>
       rw[M]at z p;simp only[cut]at p;split at p
       ·rename_i E;subst E;split at p
        ·rename_i l k D;injection p with p;subst p;rcases z.view_inv with⟨H,r,e,U⟩|⟨L,r,e,X,_,K,Q,I,Y⟩
         ·subst U;obtain⟨G,C,B⟩:=gA (P:=P) (hs:=hs) D (Nat.le_refl _) true r (Nat.zero_le _);simp only[List.length_nil]at C B;obtain rfl:k=0:=by omega
          obtain rfl:l=0:=by omega
          rw[e]at z;have R:=z.view0_of;have ha:(if r=0 then H else Option.map (λx=>x.add 0) H)=H:=by
           split;·rfl
           ·rcases R with⟨rfl,_⟩|⟨_,o,rfl,_⟩;·rfl
            ·simp[Addr.add]
          refine⟨_,A _ _ _ _ _ e B,?_⟩;simp only[List.take_nil,List.drop_nil,Nat.zero_mul,Nat.sub_self,Nat.sub_zero];rw[ha];exact VR.view0 _ _ _ _ _ R
         ·obtain⟨G,C,B⟩:=gA (P:=P) (hs:=hs) D (Nat.le_refl _) true r K;refine⟨_,A _ _ _ _ _ e B,?_⟩;simp only[Option.map_some,F];exact AP X K Q I Y (by rw[e]at z;exact z.view_uq) G C
        ·cases p
       ·cases p
      |_=>rw[M]at p;cases p
     ·cases h
    ·cases h
   ·cases h
  ·cases h
theorem pY {cs b e:List V}{off:Nat}(h:over cs off b=some e):e.length=cs.length/\off+b.length<=cs.length:=by
 unfold over at h;split at h;·rename_i f;injection h with h;subst h;simp;omega
 ·cases h
theorem fi {cs b e:List V}{off:Nat}(h:over cs off b=some e)(j:Nat):e[j]?=if off<=j/\j<off+b.length then b[j-off]? else cs[j]?:=by
 unfold over at h;split at h
 ·rename_i g;injection h with h;subst h;rw[List.append_assoc,List.getElem?_append,List.length_take,Nat.min_eq_left (by omega)];split;·rename_i f;rw[List.getElem?_take,if_pos f,if_neg (by omega)]
  ·rename_i f;rw[List.getElem?_append];split;·rename_i i;rw[if_pos (by omega)]
   ·rename_i i;rw[List.getElem?_drop,if_neg (by omega)];congr 1;omega
 ·cases h
theorem xA (off:Nat):∀(l:List (Value×Nat)) (vs:Array Value),(l.foldl (λ(cs:Array Value) (q:Value×Nat)=>cs.setIfInBounds (off+q.2) q.1) vs).size=vs.size:=by
 intro l;induction l with
 |nil=>intro vs;rfl
 |cons q l b=>intro vs;rw[List.foldl_cons,b];simp
theorem AJ (off:Nat):∀(l:List Value) (n:Nat) (vs:Array Value),off+n+l.length<=vs.size -> ∀j:Nat,
  ((l.zipIdx n).foldl (λ(cs:Array Value) (q:Value×Nat)=>cs.setIfInBounds (off+q.2) q.1) vs)[j]?=if off+n<=j/\j<off+n+l.length then l[j-(off+n)]? else vs[j]?:=by
 intro l;induction l with
 |nil =>intro n vs _ j;rw[if_neg (by simp)];rfl
 |cons v l e=>
  intro n vs h j;rw[List.zipIdx_cons,List.foldl_cons,e (n+1) _ (by simp at h ⊢;omega)];by_cases f:j=off+n;·subst f;rw[if_neg (by omega),if_pos (by simp)];simp at h;simp[Array.getElem?_setIfInBounds];omega
  ·by_cases b:off+(n+1)<=j/\j<off+(n+1)+l.length
   ·rw[if_pos b,if_pos (by simp;omega)];have:j-(off+n)=(j-(off+(n+1)))+1:=by omega
    rw[this,List.getElem?_cons_succ]
   ·rw[if_neg b,if_neg (by simp;omega)];simp only[Array.getElem?_setIfInBounds];rw[if_neg (by omega)]
theorem zY (hs:Sim Γ st a w)(b:Nat->Option (Nat×Nat))(e:Nat->Option (Nat×Nat))(N:∀i p,b i=some p->e i=some p):∀(s:List (Nat×Operand)) (cs f:List V) (vs:Array Value),
  cs.length=vs.size->(∀(j:Nat) (u:V) (y:Value),cs[j]?=some u->vs[j]?=some y->VR Γ w u y) ->
  v6 b cs (s.map λp=>(p.1,ev st.t p.2))=some f -> ∃k,Instr.fill e vs (s.map λp=>(p.1,a.eval p.2))=some k/\f.length=k.size /\ ∀(j:Nat) (u:V) (y:Value),f[j]?=some u->k[j]?=some y->VR Γ w u y:=by
 intro s;induction s with
 |nil =>intro cs f vs H D h;simp only[List.map_nil,v6,aK]at h;subst h;exact⟨vs,rfl,H,D⟩
 |cons p s R=>
  intro cs f vs H D h;obtain⟨i,x⟩:=p;simp only[List.map_cons,v6]at h;cases o:b i with
  |none=>rw[o]at h;cases h
  |some os=>
   obtain⟨off,size⟩:=os;rw[o]at h;simp only at h;split at h
   ·rename_i g;obtain⟨g,v⟩:=g;cases B:over cs off (ev st.t x).cells with
    |none=>rw[B]at h;cases h
    |some G=>
     rw[B]at h;simp only at h;obtain⟨l1,l2⟩:=pY B;have I:=hs.ev x;have r:=I.cellLen v;have n:=I.cells r;have m:=AJ off (a.eval x).cells.toList 0 vs (by simp;omega);have F:=xA off ((a.eval x).cells.toList.zipIdx 0) vs;generalize Q:((a.eval x).cells.toList.zipIdx 0).foldl (λ(cs:Array Value) (q:Value×Nat)=>cs.setIfInBounds (off+q.2) q.1) vs=E at m F
     have:=R G f E (by omega) (λj u y A l=>by
      rw[fi B]at A
      rw[m]at l
      simp only[Nat.add_zero,Array.length_toList,Array.getElem?_toList]at l
      rw[<-r]at l
      split at A
      ·rename_i C
       rw[if_pos C]at l
       obtain⟨z,O,J⟩:=n _ _ A
       rw[O]at l
       injection l with l
       subst l
       exact J
      ·rename_i C
       rw[if_neg C]at l
       exact D j u y A l) h
     obtain⟨k,L,M,K⟩:=this;refine⟨k,?_,M,K⟩;simp only[List.map_cons,Instr.fill,N _ _ o];rw[if_neg (by simp;omega)];rw[<-L,<-Q];congr 1;rw[<-Array.foldl_toList];simp
   ·cases h
theorem yp (P:Program)(w:World):∀(fl:List Field),(∀f∈fl,∃b,P.info? f.type=some b) ->
    (fl.mapM λf=>(do pure (f.offset,<-sizeOf f.type):Sem (Nat×Nat))).run P w = .ok (fl.map λf=>(f.offset,((P.info? f.type).map (·.size)).getD 0)) w:=by
  intro fl;induction fl with
  |nil=>intro _;simp
  |cons f fl j =>intro h;obtain⟨b,e⟩:=h f (by simp);rw[List.mapM_cons];simp only[Sem.run_bind,sizeOf,typeInfo,run_program,Result.andThen_ok,e,Sem.run_pure];have:=j (λg i=>h g (by simp[i]));simp only[sizeOf,typeInfo]at this;rw[this];simp[e]
theorem ye (K:ay P c)(hs:Sim Γ st a w){o:Oper}{t:TypeId}{E:Array (Nat×Operand)}{v:V}(T:o.op = .build t E)(h:aF c den (ev st.t) η d o.op=some (.val v)):bv P Γ a w o v:=by
 rw[T]at h;simp only[aF,plain]at h;split at h
 ·rename_i i ht;split at h
  case isFalse=>cases h
  rename_i g;split at h
  ·rename_i cs J;simp only[aK,Out.val.injEq]at h;subst h;obtain⟨ti,G⟩:=K _ _ ht;obtain⟨z,W,aa,H,Z,Q⟩:=G.zero;have D:∀(j:Nat) (u:V) (y:Value),i.zero.cells[j]?=some u->z.cells[j]?=some y->VR Γ w u y:=by intro j u y L hy;obtain⟨y',I,h2⟩:=Q j u L;rw[hy]at I;injection I with I;subst I;exact .rd _ _ (h2 w Γ.S)
   have X:(E.map λ(i,x)=>(i,a.eval x)).toList=E.toList.map λp=>(p.1,a.eval p.2):=by simp
   cases A:i.d with
   |struct fs=>
    obtain⟨b,O,C,B⟩:=G.struct fs A;rw[A]at J;have r:∀k p,c.place (.struct fs) k=some p->(b.toList.map λf=>(f.offset,((P.info? f.type).map (·.size)).getD 0))[k]?=some p:=by
     intro k p m;simp only[Cfg.place]at m;cases l:fs[k]? with
     |none=>rw[l]at m;cases m
     |some ot=>
      obtain⟨o',t'⟩:=ot;rw[l]at m;simp only at m;cases q:c.ty t' with
      |none=>rw[q]at m;cases m
      |some j=>
       rw[q]at m;simp only[Option.map_some,aK]at m;subst m;obtain⟨tj,F⟩:=K _ _ q;rw[<-C,List.getElem?_map]at l;rw[List.getElem?_map];cases Y:b.toList[k]? with
       |none=>rw[Y]at l;cases l
       |some fl =>rw[Y]at l;simp only[Option.map_some,aK,Prod.mk.injEq]at l;obtain⟨rfl,rfl⟩:=l;simp[F.info,F.size]
    obtain⟨s,N,R,M⟩:=zY hs (c.place (.struct fs)) (λk=>(b.toList.map λf=>(f.offset,((P.info? f.type).map (·.size)).getD 0))[k]?) r E.toList i.zero.cells cs z.cells (by rw[<-H];simp) D J;have U:=λw1=>yp P w1 b.toList B;refine⟨.agg s,λw1 _=>?_,.agg _ _ R M⟩;simp only[execOp,T,Instr.build,Sem.run_bind,zeroValue,typeInfo,run_program,Result.andThen_ok,G.info,Sem.run_pure,W,run_underlying O];rw[Array.mapM_eq_mapM_toList];simp only[Sem.run_map,U,Result.andThen_ok];rw[X];have:(λx:Nat=>(List.map (λf=>(f.offset,(Option.map (λx=>x.size) (P.info? f.type)).getD 0)) b.toList).toArray[x]?)=λk=>(b.toList.map λf=>(f.offset,((P.info? f.type).map (·.size)).getD 0))[k]?:=by funext k;simp
    rw[this,N];rfl
   |array n e=>
    rw[A]at J;have L:=G.array n e A;cases q:c.ty e with
    |none=>rw[A]at g;simp[Cfg.lays,q]at g
    |some j=>
     obtain⟨tj,F⟩:=K _ _ q;have r:∀k p,c.place (.array n e) k=some p->some (k*j.size,j.size)=some p:=by intro k p m;simp only[Cfg.place,q,Option.map_some]at m;exact m
     obtain⟨s,N,R,M⟩:=zY hs (c.place (.array n e)) (λk=>some (k*j.size,j.size)) r E.toList i.zero.cells cs z.cells (by rw[<-H];simp) D J;refine⟨.agg s,λw1 _=>?_,.agg _ _ R M⟩;simp only[execOp,T,Instr.build,Sem.run_bind,zeroValue,typeInfo,run_program,Result.andThen_ok,G.info,Sem.run_pure,W,run_underlying L,sizeOf,F.info,F.size];rw[X,N];rfl
   |_=>rw[A]at g;cases g
  ·cases h
 ·cases h
end
end Go.Am
end
