/-
  The operations that write nothing, one by one: cuts, indexes, lengths, literals.
-/
import Derived.Test.YthcnbncpgloonaaGreatuAmOps
section
set_option linter.unusedVariables false
set_option linter.unusedSimpArgs false
namespace Go.Am
open Go Go.RowKit
section
variable {P:Program}{c:Cfg}{Γ:Ctx}{st:St}{a:Act}{w:World}{den:Nat→List V→Option V}{η:Nat→Option V}{d:Nat}
def d0o (P:Program)(Γ:Ctx)(a:Act)(w:World)(o:Oper)(v:V):Prop:=∃ x,(execOp a.eval o).run P w = .ok (.value x) w∧VR Γ w v x
theorem t0u {y:ByteArray}{s:List UInt8}(h:y.data.toList=s):y.toList=s:=by rw [ByteArray.toList_eq]; exact h
theorem x0n (hs:Sim Γ st a w){o:Oper}{x:Operand}(ho:o.op = .move x∨o.op = .assign x):d0o P Γ a w o (ev st.t x):=by
 refine ⟨a.eval x,?_,hs.ev x⟩
 rcases ho with ho | ho <;> simp [execOp,ho]
theorem k1e (hs:Sim Γ st a w){o:Oper}{x y z:Operand}{v:V}(ho:o.op = .pick x y z)(h:a0d c den (ev st.t) η d o.op=some (.val v)):d0o P Γ a w o v:=by
 rw [ho] at h
 simp only [a0d,plain] at h
 have hx:=hs.ev x
 cases hv:ev st.t x with
 | bool b=>
  rw [hv] at h hx
  have e:=hx.bool_inv
  cases b <;> simp only [sj_,Out.val.injEq] at h <;> subst h
  ·exact ⟨a.eval z,by simp [execOp,ho,e,asBool],hs.ev z⟩
  ·exact ⟨a.eval y,by simp [execOp,ho,e,asBool],hs.ev y⟩
 | _=>rw [hv] at h; cases h
theorem v0g (hs:Sim Γ st a w){o:Oper}{x:Operand}{v:V}(ho:o.op = .nilCheck x)(h:a0d c den (ev st.t) η d o.op=some (.val v)):d0o P Γ a w o v:=by
 rw [ho] at h
 simp only [a0d,plain] at h
 have hx:=hs.ev x
 have key:(∃ p,a.eval x = .pointer (some p))→(execOp a.eval o).run P w = .ok (.value (a.eval x)) w:=by
  rintro ⟨p,hp⟩
  simp [execOp,ho,hp]
 cases hv:ev st.t x with
 | ptr d' n=>
  rw [hv] at h hx
  simp only [sj_,Out.val.injEq] at h
  subst h
  exact ⟨a.eval x,key ⟨_,hx.ptr_inv.1⟩,hx⟩
 | iptr x' n=>
  rw [hv] at h hx
  simp only [sj_,Out.val.injEq] at h
  subst h
  obtain ⟨_,_,_,e,_⟩:=hx.iptr_inv
  exact ⟨a.eval x,key ⟨_,e⟩,hx⟩
 | vptr b x' n=>
  rw [hv] at h hx
  simp only [sj_,Out.val.injEq] at h
  subst h
  obtain ⟨_,_,e,_⟩:=hx.vptr_inv
  exact ⟨a.eval x,key ⟨_,e⟩,hx⟩
 | eptr b s q xs i n=>
  rw [hv] at h hx
  simp only [sj_,Out.val.injEq] at h
  subst h
  exact ⟨a.eval x,key ⟨_,hx.eptr_inv.1⟩,hx⟩
 | _=>rw [hv] at h; cases h
theorem k1f (hs:Sim Γ st a w){o:Oper}{u:UnOp}{t:TypeId}{x:Operand}{v:V}(ho:o.op = .unOp u t x)(h:a0d c den (ev st.t) η d o.op=some (.val v)):d0o P Γ a w o v:=by
 rw [ho] at h
 have hx:=hs.ev x
 cases u with
 | not=>
  simp only [a0d,plain] at h
  cases hv:ev st.t x with
  | bool b=>
   rw [hv] at h hx
   simp only [sj_,Out.val.injEq] at h
   subst h
   exact ⟨.bool !b,by simp [execOp,ho,hx.bool_inv,Op.unary],.rd _ _ (.bool _)⟩
  | _=>rw [hv] at h; cases h
 | neg=>
  simp only [a0d,plain] at h
  cases hv:ev st.t x with
  | int k n=>
   rw [hv] at h hx
   simp only [sj_,Out.val.injEq] at h
   subst h
   exact ⟨.int k (k.wrap (0 - n)),by simp [execOp,ho,hx.int_inv,Op.unary,Op.intArith],.rd _ _ (.int _ _)⟩
  | _=>rw [hv] at h; cases h
 | _=>simp only [a0d] at h; cases h
theorem x0m (hs:Sim Γ st a w){o:Oper}{x:Operand}{i:Nat}{v:V}(ho:o.op = .extract x i)(h:a0d c den (ev st.t) η d o.op=some (.val v)):d0o P Γ a w o v:=by
 rw [ho] at h
 simp only [a0d,plain] at h
 have hx:=hs.ev x
 cases hv:ev st.t x with
 | tup vs=>
  rw [hv] at h hx
  simp only at h
  cases hi:vs[i]? with
  | none=>rw [hi] at h; cases h
  | some u=>
   rw [hi] at h
   simp only [sj_,Out.val.injEq] at h
   subst h
   obtain ⟨ys,e,hl,hr⟩:=hx.tup_inv
   have hlt:i < vs.length:=(gs_ hi).1
   have hy:ys[i]? = some (ys[i]'(by omega)):=Array.getElem?_eq_getElem (by omega)
   exact ⟨ys[i]'(by omega),by simp [execOp,ho,e,Instr.extract,hy],hr i _ _ hi hy⟩
 | _=>rw [hv] at h; cases h
theorem v0f (hs:Sim Γ st a w){o:Oper}{fn:Fn}{first cap:Array Operand}{v:V}(ho:o.op = .makeFunc fn first cap)(h:a0d c den (ev st.t) η d o.op=some (.val v)):d0o P Γ a w o v:=by
 rw [ho] at h
 cases fn with
 | func f=>
  simp only [a0d,plain] at h
  split at h
  ·rename_i h0
   simp only [sj_,Out.val.injEq] at h
   subst h
   have hf:first.map a.eval = #[]:=by
    have:first = #[]:=Array.eq_empty_of_size_eq_zero h0
    rw [this]; simp
   refine ⟨.func (.func f) #[] (cap.map a.eval),by simp [execOp,ho,Instr.makeFunc,hf],.clo f _ _ (by simp) ?_⟩
   intro i u y h1 h2
   simp only [List.getElem?_map,Array.getElem?_toList,Array.getElem?_map,Option.map_eq_some_iff] at h1 h2
   obtain ⟨x1,e1,rfl⟩:=h1
   obtain ⟨x2,e2,rfl⟩:=h2
   rw [e1] at e2
   injection e2 with e2
   subst e2
   exact hs.ev x1
  ·cases h
 | _=>simp only [a0d] at h; cases h
theorem x0l (hA:b0l P c)(hs:Sim Γ st a w){o:Oper}{s t:TypeId}{x:Operand}{v:V}(ho:o.op = .convert s t x)(hc:p0q c s t (ev st.t x)=some v):d0o P Γ a w o v:=by
  have hx:=hs.ev x
  unfold p0q at hc
  cases h1:c.ty s with
  | none=>rw [h1] at hc; cases hc
  | some i=>
   cases h2:c.ty t with
   | none=>rw [h1,h2] at hc; cases hc
   | some j=>
    rw [h1,h2] at hc
    simp only at hc
    obtain ⟨ti,ai⟩:=hA _ _ h1
    obtain ⟨tj,aj⟩:=hA _ _ h2
    split at hc
    ·rename_i k1 k2 k3 n e1 e2 e3
     injection hc with hc
     subst hc
     rw [e3] at hx
     exact ⟨.int k2 (k2.wrap n),by simp [execOp,ho,hx.int_inv,convert,run_underlying (ai.int _ e1),run_underlying (aj.int _ e2),Conv.intToInt],.rd _ _ (.int _ _)⟩
    ·rename_i s' e1 e2 e3
     injection hc with hc
     subst hc
     rw [e3] at hx
     obtain ⟨y,e,hy⟩:=hx.str_inv
     exact ⟨.string y,by simp [execOp,ho,e,convert,run_underlying (ai.str e1),run_underlying (aj.str e2)],.rd _ _ (.str _ _ hy)⟩
    ·cases hc
theorem j0w {y:ByteArray}{s:List UInt8}(h:y.data.toList=s):y.size=s.length:=by rw [← h,Array.length_toList]; rfl
theorem i1s {op:BinOp}{k:IntKind}{p q:Int}{v:V}(h:z0n op k p q=some v)(t:TypeId)(w:World):∃ x,(binOp op t (.int k p) (.int k q)).run P w = .ok x w∧VR Γ w v x:=by
 cases op <;> simp only [z0n,h1o,s1q,Option.map_some,sj_] at h
 case quo=>
  split at h
  ·cases h
  ·rename_i h0
   simp only [Option.map_some,sj_] at h
   subst h
   exact ⟨_,by simp [binOp,Op.intDiv,h0],.rd _ _ (.int _ _)⟩
 case rem=>
  split at h
  ·cases h
  ·rename_i h0
   simp only [sj_] at h
   subst h
   exact ⟨_,by simp [binOp,Op.intDiv,h0],.rd _ _ (.int _ _)⟩
 case and=>subst h; exact ⟨.int k (b1r .and k p q),by simp only [binOp,ne_eq,not_true_eq_false,if_false]; rfl,.rd _ _ (.int _ _)⟩
 case or=>subst h; exact ⟨.int k (b1r .or k p q),by simp only [binOp,ne_eq,not_true_eq_false,if_false]; rfl,.rd _ _ (.int _ _)⟩
 case xor=>subst h; exact ⟨.int k (b1r .xor k p q),by simp only [binOp,ne_eq,not_true_eq_false,if_false]; rfl,.rd _ _ (.int _ _)⟩
 all_goals first
  | (subst h; exact ⟨_,by simp [binOp,Op.intArith],.rd _ _ (.int _ _)⟩)
  | (subst h; exact ⟨_,by simp [binOp,Op.intCmp],.rd _ _ (.bool _)⟩)
  | (cases h)
theorem k1y {op:BinOp}{p q:List UInt8}{x y:ByteArray}{v:V}(h:f1j op p q=some v)(hx:x.data.toList=p)(hy:y.data.toList=q)(t:TypeId)(w:World) :
  ∃ z,(binOp op t (.string x) (.string y)).run P w = .ok z w∧VR Γ w v z:=by
 have ex:=t0u hx
 have ey:=t0u hy
 cases op <;> simp only [f1j,sj_] at h
 case add=>
  split at h
  ·rename_i hle
   simp only [sj_] at h
   subst h
   have hs:(x.size:Int)+(y.size:Int)≤9223372036854775807:=by
    rw [j0w hx,j0w hy]
    omega
   refine ⟨.string (x++y),by simp [binOp,Op.stringOp]; exact hs,.rd _ _ (.str _ _ ?_)⟩
   rw [ByteArray.data_append,Array.toList_append,hx,hy]
  ·cases h
 all_goals first
  | (subst h; exact ⟨_,by simp [binOp,Op.stringOp,ex,ey,t1u],.rd _ _ (.bool _)⟩)
  | (cases h)
theorem e1q (hA:b0l P c)(hs:Sim Γ st a w){o:Oper}{op:BinOp}{t t':TypeId}{x y:Operand}{v:V}(ho:o.op = .binOp op t x y t')(h:a0d c den (ev st.t) η d o.op=some (.val v)):d0o P Γ a w o v:=by
 rw [ho] at h
 simp only [a0d,plain] at h
 cases ht:c.ty t with
 | none=>rw [ht] at h; cases h
 | some i=>
  rw [ht] at h
  simp only at h
  cases hb:w0u i op (ev st.t x) (ev st.t y) with
  | none=>rw [hb] at h; cases h
  | some u=>
   rw [hb] at h
   simp only [sj_,Out.val.injEq] at h
   subst h
   obtain ⟨ti,ai⟩:=hA _ _ ht
   have hx:=hs.ev x
   have hy:=hs.ev y
   unfold w0u at hb
   split at hb
   ·rename_i p q e1 e2
    rw [e1] at hx; rw [e2] at hy
    have f1:=hx.bool_inv
    have f2:=hy.bool_inv
    split at hb
    ·rename_i hi
     injection hb with hb
     subst hb
     exact ⟨.bool (p == q),by simp [execOp,ho,f1,f2,eqGuard,binOp,Op.equal,Op.maxDepth,run_equalIn_bool' (P:=P) w 9999 t p q (ai.bool hi)],.rd _ _ (.bool _)⟩
    ·rename_i hi
     injection hb with hb
     subst hb
     exact ⟨.bool (!(p == q)),by simp [execOp,ho,f1,f2,eqGuard,binOp,Op.equal,Op.maxDepth,run_equalIn_bool' (P:=P) w 9999 t p q (ai.bool hi)],.rd _ _ (.bool _)⟩
    ·cases hb
   ·rename_i k p k' q e1 e2
    rw [e1] at hx; rw [e2] at hy
    have f1:=hx.int_inv
    have f2:=hy.int_inv
    split at hb
    ·split at hb
     ·cases hb
     ·rename_i hq
      simp only [sj_] at hb
      subst hb
      exact ⟨.int k (v1d k p q),by simp [execOp,ho,f1,f2,eqGuard,binOp,Op.shift,hq,v1d],.rd _ _ (.int _ _)⟩
    ·split at hb
     ·rename_i hk
      subst hk
      obtain ⟨z,hz,hv⟩:=i1s (P:=P) (Γ:=Γ) hb t w
      exact ⟨z,by simp [execOp,ho,f1,f2,eqGuard,hz],hv⟩
     ·cases hb
   ·rename_i p q e1 e2
    rw [e1] at hx; rw [e2] at hy
    obtain ⟨x1,f1,g1⟩:=hx.str_inv
    obtain ⟨y1,f2,g2⟩:=hy.str_inv
    obtain ⟨z,hz,hv⟩:=k1y (P:=P) (Γ:=Γ) hb g1 g2 t w
    exact ⟨z,by simp [execOp,ho,f1,f2,eqGuard,hz],hv⟩
   ·rename_i p q e1 e2
    rw [e1] at hx; rw [e2] at hy
    obtain ⟨xs,f1,hl1,hr1⟩:=hx.agg_inv
    obtain ⟨ys,f2,hl2,hr2⟩:=hy.agg_inv
    have scal:∀ {v:V} {z:Value},VR Γ w v z→n1f v z:=by
     intro v z hv
     cases v <;> simp only [n1f]
     ·exact hv.bool_inv
     ·exact hv.int_inv
     ·exact hv.str_inv
    split at hb
    ·rename_i r hcmp hr
     injection hb with hb
     subst hb
     simp only [Bool.and_eq_true] at hcmp
     obtain ⟨g0,g1⟩:=ai.cmp hcmp.1.1
     have:=g1 w xs ys p q r hl1 hl2 hcmp.1.2 hcmp.2 (λ j u z h1 h2=>scal (hr1 j u z h1 h2)) (λ j u z h1 h2=>scal (hr2 j u z h1 h2)) hr
     exact ⟨.bool r,by simp [execOp,ho,f1,f2,run_eqGuard_agg w _ t x y xs ys g0,run_eql_struct,this],.rd _ _ (.bool _)⟩
    ·rename_i r hcmp hr
     injection hb with hb
     subst hb
     simp only [Bool.and_eq_true] at hcmp
     obtain ⟨g0,g1⟩:=ai.cmp hcmp.1.1
     have:=g1 w xs ys p q r hl1 hl2 hcmp.1.2 hcmp.2 (λ j u z h1 h2=>scal (hr1 j u z h1 h2)) (λ j u z h1 h2=>scal (hr2 j u z h1 h2)) hr
     exact ⟨.bool (!r),by simp [execOp,ho,f1,f2,run_eqGuard_agg w _ t x y xs ys g0,run_neq_struct,this],.rd _ _ (.bool _)⟩
    ·cases hb
   ·cases hb
theorem Rows.cell {S:Nat→Prop}{s:Nat}{xs:List V}{k o:Nat}(h:Rows w S s xs k o){i:Nat}{x:V}(hx:xs[i]? = some x):x.cells.length=s ∧ ∃ g:Nat→Value,(∀ j:Nat,j < x.cells.length→w.cell? ⟨k,o+i * s+j,none⟩=some (g j)∧(g j).oneCell' = true) ∧
  ∀ (j:Nat) (u:V),x.cells[j]? = some u→Rd w S u (g j):=by
 obtain ⟨h1,g,h2,h3⟩:=h
 have hl:=h1 x (a0a hx)
 have hi:i < xs.length:=(gs_ hx).1
 exact ⟨hl,g i,λ j hj=>h2 i j hi (by omega),λ j u hu=>h3 i x j u hx hu⟩
theorem p0b {q:Q}{k:Nat}(h:Γ.Sq q k):Γ.S k:=by
 cases q with
 | any=>exact h
 | flat=>exact h.1
 | clean=>exact h.1
theorem w0m {v u:V}{x:Value}{n:Nat}(h:VR Γ w v x)(hu:f0f v n=some u):∃ (k o:Nat),x = .pointer (some ⟨k,o,none⟩)∧VR Γ w u (.pointer (some ⟨k,o+n,none⟩)):=by
 cases v with
 | ptr d' m=>
  simp only [f0f,sj_] at hu
  subst hu
  obtain ⟨e,hd⟩:=h.ptr_inv
  exact ⟨_,_,e,.ptr d' (m+n) hd⟩
 | iptr y m=>
  simp only [f0f,sj_] at hu
  subst hu
  obtain ⟨k,o,g,e,h1,h2,h3⟩:=h.iptr_inv
  have:=Rd.iptr (w:=w) (S:=Γ.S) y k o (m+n) g h1 h2 h3
  rw [← Nat.add_assoc] at this
  exact ⟨k,o+m,e,.rd _ _ this⟩
 | vptr b y m=>
  simp only [f0f,sj_] at hu
  subst hu
  obtain ⟨o,g,e,h1,h2,h3⟩:=h.vptr_inv
  have:=VR.vptr (Γ:=Γ) (w:=w) b y o (m+n) g h1 h2 h3
  rw [← Nat.add_assoc] at this
  exact ⟨_,o+m,e,this⟩
 | eptr b s q xs i m=>
  simp only [f0f,sj_] at hu
  subst hu
  obtain ⟨e,h1,h2,h3,h4,h5,h6⟩:=h.eptr_inv
  have:=VR.eptr (Γ:=Γ) (w:=w) b s q xs i (m+n) h1 h2 h3 h4 h5 h6 h.eptr_uq
  rw [← Nat.add_assoc] at this
  exact ⟨_,_,e,this⟩
 | _=>cases hu
theorem h1b {v u:V}{x:Value}{s:Nat}{n:Int}(h:VR Γ w v x)(hu:n0k s v n=some u):0≤n ∧ ∃ (k o len cap:Nat),x = .slice (some ⟨k,o,none⟩) len cap∧n < len∧VR Γ w u (.pointer (some ⟨k,o+n.toNat * s,none⟩)):=by
 unfold n0k at hu
 split at hu
 ·cases hu
 rename_i hn
 refine ⟨by omega,?_⟩
 cases v with
 | sl s' f xs=>
  simp only at hu
  split at hu
  ·rename_i hs
   subst hs
   cases hx:xs[n.toNat]? with
   | none=>rw [hx] at hu; cases hu
   | some y=>
    rw [hx] at hu
    simp only [Option.map_some,sj_] at hu
    subst hu
    have hi:n.toNat < xs.length:=(gs_ hx).1
    have hr:=h.sl_inv
    cases hr with
    | empty=>simp at hi
    | sl _ _ _ k o cap g hl hcap hS hsz hf hg hr=>
     have hy:=hsz y (a0a hx)
     have:=Rd.iptr (w:=w) (S:=Γ.S) y k (o+n.toNat * s') 0 (g n.toNat) hS (λ j hj=>(hg n.toNat j hi (by omega)).1) (λ j u hu=>hr n.toNat y j u hx hu)
     exact ⟨k,o,_,cap,rfl,by omega,.rd _ _ this⟩
  ·cases hu
 | view b s' q xs=>
  simp only at hu
  split at hu
  ·rename_i hs
   subst hs
   cases hx:xs[n.toNat]? with
   | none=>rw [hx] at hu; cases hu
   | some y=>
    rw [hx] at hu
    simp only [Option.map_some,sj_] at hu
    subst hu
    have hi:n.toNat < xs.length:=(gs_ hx).1
    rcases h.view_inv with ⟨_,_,_,e⟩ | ⟨o,cap,e,hb,_,hl,hfit,hr,hq⟩
    ·subst e; simp at hi
    ·obtain ⟨hsz,g,h2,h3⟩:=hr.cell hx
     have:=VR.vptr (Γ:=Γ) (w:=w) b y (o+n.toNat * s') 0 g hb (λ j hj=>(h2 j hj).1) (λ j u hu=>(h3 j u hu).mono (λ k hk=>p0b hk) (λ _ _ _=>rfl))
     exact ⟨_,o,_,cap,e,by omega,this⟩
  ·cases hu
 | own b s' q xs=>
  simp only at hu
  split at hu
  ·rename_i hs
   subst hs
   split at hu
   ·rename_i hi
    injection hu with hu
    subst hu
    rcases h.own_inv with ⟨_,e,_⟩ | ⟨e,hb,h1,h2,h3,h4⟩
    ·subst e; simp at hi
    ·exact ⟨_,_,_,_,e,by omega,VR.eptr (Γ:=Γ) (w:=w) b s' q xs n.toNat 0 hb h1 h2 hi h3 h4 h.own_uq⟩
   ·cases hu
  ·cases hu
 | _=>cases hu
theorem s0i (hs:Sim Γ st a w){v:V}{x:Value}{cs:List V}(h:VR Γ w v x)(hc:c0i (λ b=>st.h.getD b none) v=some cs) :
  ∃ (k o:Nat) (g:Nat→Value),x = .pointer (some ⟨k,o,none⟩)∧(∀ j:Nat,j < cs.length→w.cell? ⟨k,o+j,none⟩=some (g j)) ∧ ∀ (j:Nat) (u:V),cs[j]? = some u→VR Γ w u (g j):=by
 cases v with
 | ptr d' m=>
  simp only [c0i] at hc
  cases hb:st.h.getD d' none with
  | none=>rw [hb] at hc; cases hc
  | some r=>
   rw [hb] at hc
   simp only [Option.map_some,sj_] at hc
   subst hc
   have hb':st.h[d']? = some (some r):=by
    simp only [List.getD] at hb
    cases h0:st.h[d']? with
    | none=>rw [h0] at hb; cases hb
    | some y=>rw [h0] at hb; simp only [Option.getD_some] at hb; rw [hb]
   obtain ⟨_,cur,e,hcur,hsz,hv⟩:=hs.bx d' r hb'
   refine ⟨Γ.box d',m,λ j=>cur.getD (m+j) undef,h.ptr_inv.1,λ j hj=>?_,λ j u hu=>?_⟩
   ·rw [List.length_drop] at hj
    have hlt:m+j < cur.size:=by omega
    simp [World.cell?,hcur,hlt,Array.getD_eq_getD_getElem?,Array.getElem?_eq_getElem hlt]
   ·rw [List.getElem?_drop] at hu
    obtain ⟨y,hy,hvy⟩:=hv _ _ hu
    simp only [Array.getD_eq_getD_getElem?,hy]
    exact hvy
 | iptr y m=>
  simp only [c0i,sj_] at hc
  subst hc
  obtain ⟨k,o,g,e,h1,h2,h3⟩:=h.iptr_inv
  refine ⟨k,o+m,λ j=>g (m+j),e,λ j hj=>?_,λ j u hu=>?_⟩
  ·rw [List.length_drop] at hj
   have:=h2 (m+j) (by omega)
   rwa [← Nat.add_assoc] at this
  ·rw [List.getElem?_drop] at hu
   exact .rd _ _ (h3 _ _ hu)
 | vptr b y m=>
  simp only [c0i,sj_] at hc
  subst hc
  obtain ⟨o,g,e,h1,h2,h3⟩:=h.vptr_inv
  refine ⟨_,o+m,λ j=>g (m+j),e,λ j hj=>?_,λ j u hu=>?_⟩
  ·rw [List.length_drop] at hj
   have:=h2 (m+j) (by omega)
   rwa [← Nat.add_assoc] at this
  ·rw [List.getElem?_drop] at hu
   exact .rd _ _ (h3 _ _ hu)
 | eptr b s q xs i m=>
  simp only [c0i] at hc
  cases hx:xs[i]? with
  | none=>rw [hx] at hc; cases hc
  | some y=>
   rw [hx] at hc
   simp only [Option.map_some,sj_] at hc
   subst hc
   obtain ⟨e,h1,h2,h3,h4,h5,h6⟩:=h.eptr_inv
   obtain ⟨hsz,g,g2,g3⟩:=h5.cell hx
   refine ⟨_,Γ.off b+i * s+m,λ j=>g (m+j),e,λ j hj=>?_,λ j u hu=>?_⟩
   ·rw [List.length_drop] at hj
    have:=(g2 (m+j) (by omega)).1
    rwa [← Nat.add_assoc] at this
   ·rw [List.getElem?_drop] at hu
    exact .rd _ _ ((g3 _ _ hu).mono (λ k hk=>p0b hk) (λ _ _ _=>rfl))
 | _=>cases hc
theorem c1o {i:TyInfo}{ti:TypeInfo}{t:Nat}(ai:AgreeT P c t i ti){cs:List V}{v:V}{k o:Nat}{g:Nat→Value}(hp:f0s i.d.isAgg i.size cs=some v)
  (hg:∀ j:Nat,j < cs.length→w.cell? ⟨k,o+j,none⟩=some (g j)) (hr:∀ (j:Nat) (u:V),cs[j]? = some u→VR Γ w u (g j)) :
  ∃ x,(loadVar t ⟨k,o,none⟩).run P w = .ok x w∧VR Γ w v x:=by
 unfold f0s at hp
 split at hp
 ·cases hp
 rename_i hlen
 have hadd:∀ j,(⟨k,o,none⟩:Addr).add j=⟨k,o+j,none⟩:=by intro j; unfold Addr.add; split <;> simp_all
 split at hp
 ·rename_i hagg
  injection hp with hp
  subst hp
  have hu:∃ dd,P.underlying t=some dd∧((∃ fs,dd = .struct fs)∨(∃ n e,dd = .array n e)):=by
   cases hd:i.d with
   | struct fs=>obtain ⟨f,h1,_⟩:=ai.struct fs hd; exact ⟨_,h1,.inl ⟨_,rfl⟩⟩
   | array n e=>exact ⟨_,ai.array n e hd,.inr ⟨_,_,rfl⟩⟩
   | _=>rw [hd] at hagg; cases hagg
  obtain ⟨dd,hdd,hk⟩:=hu
  have hl:=run_loadCells (P:=P) w ⟨k,o,none⟩ i.size g (λ j hj=>by rw [hadd]; exact hg j (by omega))
  refine ⟨.agg ((List.range i.size).map g).toArray,?_,.agg _ _ (by simp; omega) ?_⟩
  ·rcases hk with ⟨fs,rfl⟩ | ⟨n,e,rfl⟩ <;> simp [loadVar,isAgg,run_underlying hdd,sizeOf,typeInfo,ai.info,ai.size,hl]
  ·intro j u y h1 h2
   rw [List.getElem?_take] at h1
   split at h1
   ·rename_i hj
    have:y=g j:=by
     simp only [List.getElem?_toArray,List.getElem?_map,List.getElem?_range hj,Option.map_some,sj_] at h2
     exact h2.symm
    subst this
    exact hr j u h1
   ·cases h1
 ·rename_i hagg
  split at hp
  ·rename_i h1
   obtain ⟨dd,hdd,n1,n2⟩:=ai.agg (by simpa using hagg)
   cases cs with
   | nil=>cases hp
   | cons u rest=>
    simp only [List.head?_cons,sj_] at hp
    subst hp
    have h0:=hg 0 (by simp)
    simp only [Nat.add_zero] at h0
    refine ⟨g 0,?_,hr 0 u rfl⟩
    simp only [loadVar,isAgg,Sem.run_bind,run_underlying hdd,Result.andThen_ok]
    cases dd with
    | struct fs=>exact absurd rfl (n1 fs)
    | array n e=>exact absurd rfl (n2 n e)
    | _=>simp [h0]
  ·cases hp
theorem k1d (hA:b0l P c)(hs:Sim Γ st a w){o:Oper}{t:TypeId}{x:Operand}{v:V}(ho:o.op = .load t x)(h:a0d c den (ev st.t) (λ b=>st.h.getD b none) d o.op=some (.val v)):d0o P Γ a w o v:=by
 rw [ho] at h
 simp only [a0d,plain,i0f] at h
 cases ht:c.ty t with
 | none=>rw [ht] at h; cases h
 | some i=>
  rw [ht] at h
  simp only at h
  cases hc:c0i (λ b=>st.h.getD b none) (ev st.t x) with
  | none=>rw [hc] at h; cases h
  | some cs=>
   rw [hc] at h
   simp only at h
   cases hp:f0s i.d.isAgg i.size cs with
   | none=>rw [hp] at h; cases h
   | some u=>
    rw [hp] at h
    simp only [sj_,Out.val.injEq] at h
    subst h
    obtain ⟨ti,ai⟩:=hA _ _ ht
    obtain ⟨k,o',g,e,h1,h2⟩:=s0i hs (hs.ev x) hc
    obtain ⟨y,hy,hv⟩:=c1o ai hp h1 h2
    exact ⟨y,by simp [execOp,ho,e,Instr.loadAt,Instr.sureAddr,hy],hv⟩
theorem r0r (hA:b0l P c)(hs:Sim Γ st a w){o:Oper}{t:TypeId}{x:Operand}{f:Nat}{v:V}(ho:o.op = .fieldAddr t x f)(h:a0d c den (ev st.t) η d o.op=some (.val v)):d0o P Γ a w o v:=by
 rw [ho] at h
 simp only [a0d,plain] at h
 split at h
 ·rename_i fs sz by_ z cm nz_ qz_ ht
  split at h
  ·rename_i off ft hf
   split at h
   ·rename_i j hj
    split at h
    ·cases h
    ·rename_i hj0
     split at h
     ·rename_i u hu
      simp only [sj_,Out.val.injEq] at h
      subst h
      obtain ⟨ti,ai⟩:=hA _ _ ht
      obtain ⟨tj,aj⟩:=hA _ _ hj
      obtain ⟨fields,hfs,hmap,_⟩:=ai.struct fs rfl
      obtain ⟨k,o',e,hv⟩:=w0m (hs.ev x) hu
      have hfld:∃ fl,fields[f]? = some fl∧fl.offset=off∧fl.type=ft:=by
       rw [← hmap,List.getElem?_map,Array.getElem?_toList] at hf
       cases hq:fields[f]? with
       | none=>rw [hq] at hf; cases hf
       | some fl=>rw [hq] at hf; simp only [Option.map_some,sj_,Prod.mk.injEq] at hf; exact ⟨fl,rfl,hf.1,hf.2⟩
      obtain ⟨fl,hfl,rfl,rfl⟩:=hfld
      have hadd:(⟨k,o',none⟩:Addr).add fl.offset=⟨k,o' + fl.offset,none⟩:=by unfold Addr.add; split <;> simp_all
      exact ⟨_,by simp [execOp,ho,e,Instr.fieldAt,run_underlying hfs,hfl,Instr.sureAddr,fieldPlace,sizeOf,typeInfo,aj.info,aj.size,hj0,hadd],hv⟩
     ·cases h
   ·cases h
  ·cases h
 ·cases h
end
end Go.Am
end
section
set_option linter.unusedVariables false
set_option linter.unusedSimpArgs false
namespace Go.Am
open Go Go.RowKit
section
variable {P:Program}{c:Cfg}{Γ:Ctx}{st:St}{a:Act}{w:World}{den:Nat→List V→Option V}{η:Nat→Option V}{d:Nat}
theorem k1c {i:TyInfo}{ti:TypeInfo}{t:Nat}(ai:AgreeT P c t i ti){cs:List V}{vs:Array Value}{off:Nat}{v:V}(hl:cs.length=vs.size)
  (hr:∀ (j:Nat) (u:V) (y:Value),cs[j]? = some u→vs[j]? = some y→VR Γ w u y) (hp:f0s i.d.isAgg i.size (cs.drop off)=some v) :
  ∃ x,(part t vs off).run P w = .ok x w∧VR Γ w v x:=by
 unfold f0s at hp
 split at hp
 ·cases hp
 rename_i hlen
 rw [List.length_drop] at hlen
 split at hp
 ·rename_i hagg
  injection hp with hp
  subst hp
  have hu:∃ dd,P.underlying t=some dd∧((∃ fs,dd = .struct fs)∨(∃ n e,dd = .array n e)):=by
   cases hd:i.d with
   | struct fs=>obtain ⟨f,h1,_⟩:=ai.struct fs hd; exact ⟨_,h1,.inl ⟨_,rfl⟩⟩
   | array n e=>exact ⟨_,ai.array n e hd,.inr ⟨_,_,rfl⟩⟩
   | _=>rw [hd] at hagg; cases hagg
  obtain ⟨dd,hdd,hk⟩:=hu
  refine ⟨.agg (vs.extract off (off+i.size)),?_,.agg _ _ (by simp; omega) ?_⟩
  ·rcases hk with ⟨fs,rfl⟩ | ⟨n,e,rfl⟩ <;> simp [part,isAgg,run_underlying hdd,sizeOf,typeInfo,ai.info,ai.size]
  ·intro j u y h1 h2
   rw [List.getElem?_take] at h1
   split at h1
   ·rename_i hj
    rw [List.getElem?_drop] at h1
    rw [Array.getElem?_extract] at h2
    split at h2
    ·exact hr _ u y h1 h2
    ·cases h2
   ·cases h1
 ·rename_i hagg
  split at hp
  ·rename_i h1
   obtain ⟨dd,hdd,n1,n2⟩:=ai.agg (by simpa using hagg)
   have hlt:off < vs.size:=by omega
   have h0:cs[off]? = some v:=by
    have:(cs.drop off)[0]? = some v:=by rw [← List.head?_eq_getElem?]; exact hp
    rwa [List.getElem?_drop,Nat.add_zero] at this
   refine ⟨vs[off],?_,hr off v _ h0 (Array.getElem?_eq_getElem hlt)⟩
   simp only [part,isAgg,Sem.run_bind,run_underlying hdd,Result.andThen_ok]
   cases dd with
   | struct fs=>exact absurd rfl (n1 fs)
   | array n e=>exact absurd rfl (n2 n e)
   | _=>simp [Array.getElem?_eq_getElem hlt]
  ·cases hp
theorem e1t (hA:b0l P c)(hs:Sim Γ st a w){o:Oper}{t:TypeId}{x:Operand}{f:Nat}{v:V}(ho:o.op = .field t x f)(h:a0d c den (ev st.t) η d o.op=some (.val v)):d0o P Γ a w o v:=by
 rw [ho] at h
 simp only [a0d,plain] at h
 split at h
 ·rename_i fs sz by_ z cm nz_ qz_ ht
  split at h
  ·rename_i off ft cs hf hx
   split at h
   ·rename_i j hj
    split at h
    ·rename_i u hu
     simp only [sj_,Out.val.injEq] at h
     subst h
     obtain ⟨ti,ai⟩:=hA _ _ ht
     obtain ⟨tj,aj⟩:=hA _ _ hj
     obtain ⟨fields,hfs,hmap,_⟩:=ai.struct fs rfl
     have hxv:=hs.ev x
     rw [hx] at hxv
     obtain ⟨vs,e,hl,hr⟩:=hxv.agg_inv
     have hfld:∃ fl,fields[f]? = some fl∧fl.offset=off∧fl.type=ft:=by
      rw [← hmap,List.getElem?_map,Array.getElem?_toList] at hf
      cases hq:fields[f]? with
      | none=>rw [hq] at hf; cases hf
      | some fl=>rw [hq] at hf; simp only [Option.map_some,sj_,Prod.mk.injEq] at hf; exact ⟨fl,rfl,hf.1,hf.2⟩
     obtain ⟨fl,hfl,rfl,rfl⟩:=hfld
     obtain ⟨y,hy,hv⟩:=k1c (P:=P) (w:=w) aj hl hr hu
     exact ⟨y,by simp [execOp,ho,e,Instr.field,run_underlying hfs,hfl,asAgg,hy],hv⟩
    ·cases h
   ·cases h
  ·cases h
 ·cases h
theorem r0s (hA:b0l P c)(hs:Sim Γ st a w){o:Oper}{t:TypeId}{x y:Operand}{v:V}(ho:o.op = .indexAddr t x y)(h:a0d c den (ev st.t) η d o.op=some (.val v)):d0o P Γ a w o v:=by
 rw [ho] at h
 simp only [a0d,plain] at h
 split at h
 ·rename_i i k n ht hy
  obtain ⟨ti,ai⟩:=hA _ _ ht
  have hyv:=hs.ev y
  rw [hy] at hyv
  have ey:=hyv.int_inv
  split at h
  ·rename_i e hd
   split at h
   ·rename_i j hj
    split at h
    ·rename_i u hu
     simp only [sj_,Out.val.injEq] at h
     subst h
     obtain ⟨tj,aj⟩:=hA _ _ hj
     obtain ⟨hn,k',o',len,cap,ex,hlt,hv⟩:=h1b (hs.ev x) hu
     have hadd:(⟨k',o',none⟩:Addr).add (n.toNat * j.size)=⟨k',o' + n.toNat * j.size,none⟩:=by unfold Addr.add; split <;> simp_all
     exact ⟨_,by simp [execOp,ho,ex,ey,Instr.indexAt,asIntOf,run_underlying (ai.slice _ hd),hn,hlt,sizeOf,typeInfo,aj.info,aj.size,hadd],hv⟩
    ·cases h
   ·cases h
  ·rename_i m e hd
   split at h
   ·rename_i j hj
    split at h
    ·rename_i hnm
     split at h
     ·rename_i u hu
      simp only [sj_,Out.val.injEq] at h
      subst h
      obtain ⟨tj,aj⟩:=hA _ _ hj
      obtain ⟨k',o',ex,hv⟩:=w0m (hs.ev x) hu
      have hadd:(⟨k',o',none⟩:Addr).add (n.toNat * j.size)=⟨k',o' + n.toNat * j.size,none⟩:=by unfold Addr.add; split <;> simp_all
      exact ⟨_,by simp [execOp,ho,ex,ey,Instr.indexAt,asIntOf,run_underlying (ai.array _ _ hd),Instr.sureAddr,hnm,sizeOf,typeInfo,aj.info,aj.size,hadd],hv⟩
     ·cases h
    ·cases h
   ·cases h
  ·cases h
 ·cases h
theorem e1u (hA:b0l P c)(hs:Sim Γ st a w){o:Oper}{t:TypeId}{x y:Operand}{v:V}(ho:o.op = .index t x y)(h:a0d c den (ev st.t) η d o.op=some (.val v)):d0o P Γ a w o v:=by
 rw [ho] at h
 simp only [a0d,plain] at h
 split at h
 ·rename_i i k n ht hy
  obtain ⟨ti,ai⟩:=hA _ _ ht
  have hyv:=hs.ev y
  rw [hy] at hyv
  have ey:=hyv.int_inv
  split at h
  ·rename_i s hd hx
   split at h
   ·cases h
   ·rename_i hn
    split at h
    ·rename_i b hb
     simp only [sj_,Out.val.injEq] at h
     subst h
     have hxv:=hs.ev x
     rw [hx] at hxv
     obtain ⟨z,ex,hz⟩:=hxv.str_inv
     have hi:n.toNat < z.size:=by rw [j0w hz]; exact (gs_ hb).1
     have hbz:z[n.toNat]? = some b:=by
      rw [getElem?_pos z n.toNat hi]
      subst hz
      rw [Array.getElem?_toList] at hb
      have hi':n.toNat < z.data.size:=hi
      rw [Array.getElem?_eq_getElem hi'] at hb
      exact hb
     have hn':0≤n:=by omega
     exact ⟨.int .u8 b.toNat,by simp [execOp,ho,ex,ey,Instr.index,asIntOf,run_underlying (ai.str hd),hn',hbz],.rd _ _ (.int _ _)⟩
    ·cases h
  ·rename_i m e cs hd hx
   split at h
   ·rename_i j hj
    split at h
    ·rename_i hnm
     split at h
     ·rename_i u hu
      simp only [sj_,Out.val.injEq] at h
      subst h
      obtain ⟨tj,aj⟩:=hA _ _ hj
      have hxv:=hs.ev x
      rw [hx] at hxv
      obtain ⟨vs,ex,hl,hr⟩:=hxv.agg_inv
      obtain ⟨z,hz,hv⟩:=k1c (P:=P) (w:=w) aj hl hr hu
      exact ⟨z,by simp [execOp,ho,ex,ey,Instr.index,asIntOf,run_underlying (ai.array _ _ hd),hnm,sizeOf,typeInfo,aj.info,aj.size,hz],hv⟩
     ·cases h
    ·cases h
   ·cases h
  ·cases h
 ·cases h
theorem t1t {v:V}{x:Value}{n:Nat}(h:VR Γ w v x)(hn:w1t v=some n):∃ ad cap,x = .slice ad n cap:=by
 cases v with
 | nil=>
  simp only [w1t,sj_] at hn
  subst hn
  exact ⟨_,_,h.nil_inv⟩
 | sl s f xs=>
  simp only [w1t,sj_] at hn
  subst hn
  have hr:=h.sl_inv
  cases hr with
  | empty=>exact ⟨_,_,rfl⟩
  | sl=>exact ⟨_,_,rfl⟩
 | own b s q xs=>
  simp only [w1t,sj_] at hn
  subst hn
  rcases h.own_inv with ⟨e,rfl,_⟩ | ⟨e,_⟩
  ·exact ⟨_,_,e⟩
  ·exact ⟨_,_,e⟩
 | view b s q xs=>
  simp only [w1t,sj_] at hn
  subst hn
  rcases h.view_inv with ⟨_,_,e,rfl⟩ | ⟨_,_,e,_⟩
  ·exact ⟨_,_,e⟩
  ·exact ⟨_,_,e⟩
 | _=>cases hn
theorem r2m {α:Type}{l:Array α}{x:α}(h:l.toList=[x]):l = #[x]:=by cases l; simp_all
theorem w1i {α:Type}{l:Array α}{x y:α}(h:l.toList=[x,y]):l = #[x,y]:=by cases l; simp_all
theorem o1s (hA:b0l P c)(hs:Sim Γ st a w){o:Oper}{args:Array Operand}{ts:Array TypeId}{v:V}(ho:o.op = .call ⟨.builtin .len,args,ts⟩)(h:a0d c den (ev st.t) η d o.op=some (.val v)):d0o P Γ a w o v:=by
 rw [ho] at h
 simp only [a0d,plain] at h
 split at h
 ·rename_i x t hx ht
  have e1:=r2m hx
  have e2:=r2m ht
  subst e1; subst e2
  split at h
  ·rename_i i hi
   obtain ⟨ti,ai⟩:=hA _ _ hi
   split at h
   ·rename_i hd
    split at h
    ·rename_i s hn
     simp only [sj_,Out.val.injEq] at h
     subst h
     have hxv:=hs.ev x
     rw [hn] at hxv
     obtain ⟨y,e,hy⟩:=hxv.str_inv
     exact ⟨.int .i64 s.length,by simp [execOp,ho,resolve,invoke,builtin,Builtin.len_,run_underlying (ai.str hd),e,j0w hy,goInt],.rd _ _ (.int _ _)⟩
    ·cases h
   ·rename_i e hd
    split at h
    ·rename_i n hn
     simp only [sj_,Out.val.injEq] at h
     subst h
     obtain ⟨ad,cap,ex⟩:=t1t (hs.ev x) hn
     exact ⟨.int .i64 n,by simp [execOp,ho,resolve,invoke,builtin,Builtin.len_,run_underlying (ai.slice _ hd),ex,goInt],.rd _ _ (.int _ _)⟩
    ·cases h
   ·cases h
  ·cases h
 ·cases h
theorem o1u (hs:Sim Γ st a w){o:Oper}{args:Array Operand}{ts:Array TypeId}{v:V}(ho:o.op = .call ⟨.builtin .min,args,ts⟩)(h:a0d c den (ev st.t) η d o.op=some (.val v)):d0o P Γ a w o v:=by
 rw [ho] at h
 simp only [a0d,plain] at h
 split at h
 ·rename_i x y hx
  have e1:=w1i hx
  subst e1
  split at h
  ·rename_i k p k' q e1 e2
   split at h
   ·rename_i hk
    subst hk
    simp only [sj_,Out.val.injEq] at h
    subst h
    have h1:=hs.ev x
    have h2:=hs.ev y
    rw [e1] at h1; rw [e2] at h2
    exact ⟨_,by simp [execOp,ho,resolve,invoke,builtin,Builtin.min_,Builtin.min2,h1.int_inv,h2.int_inv],.rd _ _ (.int _ _)⟩
   ·cases h
  ·cases h
 ·cases h
theorem o1t (hs:Sim Γ st a w){o:Oper}{args:Array Operand}{ts:Array TypeId}{v:V}(ho:o.op = .call ⟨.builtin .max,args,ts⟩)(h:a0d c den (ev st.t) η d o.op=some (.val v)):d0o P Γ a w o v:=by
 rw [ho] at h
 simp only [a0d,plain] at h
 split at h
 ·rename_i x y hx
  have e1:=w1i hx
  subst e1
  split at h
  ·rename_i k p k' q e1 e2
   split at h
   ·rename_i hk
    subst hk
    simp only [sj_,Out.val.injEq] at h
    subst h
    have h1:=hs.ev x
    have h2:=hs.ev y
    rw [e1] at h1; rw [e2] at h2
    exact ⟨_,by simp [execOp,ho,resolve,invoke,builtin,Builtin.max_,Builtin.max2,h1.int_inv,h2.int_inv],.rd _ _ (.int _ _)⟩
   ·cases h
  ·cases h
 ·cases h
theorem i0q {hs:Sim Γ st a w}{n m:Nat}{lo hi:Option Operand}{l h:Nat}(hc:n1a n (lo.map (ev st.t)) (hi.map (ev st.t))=some (l,h))(hm:n≤m)(isS:Bool)(cap:Nat)(hcap:n≤cap) :
  l≤h∧h≤n∧(Instr.sliceBounds isS n cap (lo.map a.eval) (hi.map a.eval) none).run P w = .ok (l,h,cap) w:=by
 unfold n1a at hc
 have key:∀ (L H:Int),(if 0≤L∧L≤H∧H≤n then some (L.toNat,H.toNat) else none)=some (l,h)→0≤L∧L≤H∧H≤n∧l=L.toNat∧h=H.toNat:=by
  intro L H hk
  split at hk
  ·rename_i hh
   injection hk with hk
   injection hk with h1 h2
   exact ⟨hh.1,hh.2.1,hh.2.2,h1.symm,h2.symm⟩
  ·cases hk
 cases lo with
 | none=>
  cases hi with
  | none=>
   simp only [Option.map_none] at hc
   obtain ⟨h1,h2,h3,rfl,rfl⟩:=key _ _ hc
   exact ⟨by omega,by omega,by simp [Instr.sliceBounds]⟩
  | some y=>
   simp only [Option.map_none,Option.map_some] at hc
   cases hy:ev st.t y with
   | int k H=>
    rw [hy] at hc
    obtain ⟨h1,h2,h3,rfl,rfl⟩:=key _ _ hc
    have hyv:=hs.ev y
    rw [hy] at hyv
    have:H≤(cap:Int):=by omega
    have h0:0≤H:=by omega
    exact ⟨by omega,by omega,by simp [Instr.sliceBounds,Instr.sliceBound,hyv.int_inv,asIntOf,this,h0]⟩
   | _=>rw [hy] at hc; cases hc
 | some z=>
  cases hz:ev st.t z with
  | int k' L=>
   have hzv:=hs.ev z
   rw [hz] at hzv
   cases hi with
   | none=>
    simp only [Option.map_none,Option.map_some,hz] at hc
    obtain ⟨h1,h2,h3,rfl,hh⟩:=key _ _ hc
    simp only [Int.toNat_natCast] at hh
    subst hh
    exact ⟨by omega,by omega,by simp [Instr.sliceBounds,Instr.sliceBound,hzv.int_inv,asIntOf,h1]; intro hlt; exfalso; omega⟩
   | some y=>
    simp only [Option.map_some,hz] at hc
    cases hy:ev st.t y with
    | int k H=>
     rw [hy] at hc
     obtain ⟨h1,h2,h3,rfl,rfl⟩:=key _ _ hc
     have hyv:=hs.ev y
     rw [hy] at hyv
     have e1:H≤(cap:Int):=by omega
     have h0:0≤H:=by omega
     exact ⟨by omega,by omega,by simp [Instr.sliceBounds,Instr.sliceBound,hyv.int_inv,hzv.int_inv,asIntOf,e1,h0,h1]; intro hlt; exfalso; omega⟩
    | _=>rw [hy] at hc; cases hc
  | _=>cases hi <;> (simp only [Option.map_some,Option.map_none,hz] at hc; cases hc)
theorem Rows.sub {S:Nat→Prop}{s:Nat}{xs:List V}{k o l h:Nat}(hr:Rows w S s xs k o)(hlh:l≤h)(hh:h≤xs.length):Rows w S s ((xs.take h).drop l) k (o+l * s):=by
 obtain ⟨h1,g,h2,h3⟩:=hr
 refine ⟨λ x hx=>h1 x (List.mem_of_mem_take (List.mem_of_mem_drop hx)),λ i j=>g (l+i) j,λ i j hi hj=>?_,λ i x j u hx hu=>?_⟩
 ·rw [List.length_drop,List.length_take,Nat.min_eq_left hh] at hi
  have:=h2 (l+i) j (by omega) hj
  rw [Nat.add_mul,← Nat.add_assoc] at this
  exact this
 ·rw [List.getElem?_drop,List.getElem?_take] at hx
  split at hx
  ·exact h3 _ x j u hx hu
  ·cases hx
theorem TrRows.sub {N:Nat→Prop}{s:Nat}{xs:List V}{k o l h:Nat}(hr:TrRows w N s xs k o)(hh:h≤xs.length):TrRows w N s ((xs.take h).drop l) k (o+l * s):=by
 obtain ⟨g,T,h2,h3,h4,h5⟩:=hr
 refine ⟨λ i j=>g (l+i) j,λ i j=>T (l+i) j,λ i j hi hj=>?_,λ i x j u hx hu=>?_,λ i j i' j' m h1 h2=>?_,λ i j m hm=>h5 _ _ m hm⟩
 ·rw [List.length_drop,List.length_take,Nat.min_eq_left hh] at hi
  have:=h2 (l+i) j (by omega) hj
  rw [Nat.add_mul,← Nat.add_assoc] at this
  exact this
 ·rw [List.getElem?_drop,List.getElem?_take] at hx
  split at hx
  ·exact h3 _ x j u hx hu
  ·cases hx
 ·obtain ⟨e1,e2⟩:=h4 _ _ _ _ m h1 h2
  exact ⟨by omega,e2⟩
theorem x1l {q:Q}{b s:Nat}{xs:List V}{k o l h:Nat}(hu:Γ.Uq w q b s xs k o)(hh:h≤xs.length):Γ.Uq w q b s ((xs.take h).drop l) k (o+l * s):=λ hq hU=>(hu hq hU).sub hh
theorem flatOk.sub {q:Q}{xs:List V}{l h:Nat}(hq:flatOk q xs):flatOk q ((xs.take h).drop l):=λ e x hx=>hq e x (List.mem_of_mem_take (List.mem_of_mem_drop hx))
theorem j1h {α:Type}{xs:List α}{l h:Nat}(hh:h≤xs.length):((xs.take h).drop l).length=h - l:=by rw [List.length_drop,List.length_take,Nat.min_eq_left hh]
theorem l1f {b s:Nat}{q:Q}{xs:List V}{o cap l h:Nat}(hb:Γ.has b)(hl:xs.length≤cap)(hfit:o+cap * s≤Γ.off b+Γ.cap b * Γ.sz b∧cap≤Γ.cap b)
  (hr:Rows w (Γ.Sq q) s xs (Γ.blk b) o) (hq:flatOk q xs) (hu:Γ.Uq w q b s xs (Γ.blk b) o) (hlh:l≤h) (hh:h≤xs.length) :
  VR Γ w (.view b s q ((xs.take h).drop l)) (.slice (if cap=l then some ⟨Γ.blk b,o,none⟩ else some ⟨Γ.blk b,o+l * s,none⟩) (h - l) (cap - l)):=by
 by_cases h0:l=h
 ·subst h0
  have:(xs.take l).drop l=[]:=by rw [List.drop_eq_nil_iff,List.length_take]; omega
  rw [this,Nat.sub_self]
  have e3:l * s+(cap - l) * s=cap * s:=by rw [← Nat.add_mul]; congr 1; omega
  refine .view0 _ _ _ _ _ (.inr ⟨hb,?_⟩)
  split
  ·refine ⟨o,rfl,?_,by omega⟩
   omega
  ·refine ⟨o+l * s,rfl,?_,by omega⟩
   omega
 ·rw [if_neg (by omega)]
  have e:=j1h (l:=l) hh
  have:=VR.view (Γ:=Γ) (w:=w) b s q ((xs.take h).drop l) (o+l * s) (cap - l) hb (by omega) (by omega) (by
   have:l * s+(cap - l) * s=cap * s:=by rw [← Nat.add_mul]; congr 1; omega
   omega) (hr.sub hlh hh) hq.sub (x1l hu hh)
  rwa [e] at this
theorem e1v (hA:b0l P c)(hs:Sim Γ st a w){o:Oper}{t:TypeId}{x:Operand}{lo hi mx:Option Operand}{v:V}(ho:o.op = .slice t x lo hi mx)(h:a0d c den (ev st.t) η d o.op=some (.val v)):d0o P Γ a w o v:=by
 rw [ho] at h
 cases mx with
 | some m=>simp only [a0d] at h; cases h
 | none=>
  simp only [a0d,plain] at h
  split at h
  ·rename_i i ht
   obtain ⟨ti,ai⟩:=hA _ _ ht
   have hxv:=hs.ev x
   split at h
   ·rename_i hd
    split at h
    ·rename_i s hx
     rw [hx] at hxv
     obtain ⟨y,e,hy⟩:=hxv.str_inv
     split at h
     ·rename_i l k hc
      simp only [sj_,Out.val.injEq] at h
      subst h
      obtain ⟨h1,h2,h3⟩:=i0q (P:=P) (hs:=hs) hc (Nat.le_refl _) false s.length (Nat.le_refl _)
      refine ⟨.string (y.extract l k),by simp [execOp,ho,e,Instr.sliceAt,Instr.slice,run_underlying (ai.str hd),j0w hy,h3],.rd _ _ (.str _ _ ?_)⟩
      subst hy
      rw [ByteArray.data_extract,Array.toList_extract]
      simp [List.extract,List.drop_take]
     ·cases h
    ·cases h
   ·rename_i e hd
    split at h
    ·rename_i j hj
     obtain ⟨tj,aj⟩:=hA _ _ hj
     split at h
     ·rename_i u hu
      simp only [sj_,Out.val.injEq] at h
      subst h
      have hadd:∀ k o' n,(⟨k,o',none⟩:Addr).add n=⟨k,o' + n,none⟩:=by intro k o' n; unfold Addr.add; split <;> simp_all
      have hrun:∀ (ad:Option Addr) (len cap l k:Nat),a.eval x = .slice ad len cap→(Instr.sliceBounds true len cap (lo.map a.eval) (hi.map a.eval) none).run P w = .ok (l,k,cap) w →
        (execOp a.eval o).run P w = .ok (.value (.slice (if cap=l then ad else ad.map (·.add (l * j.size))) (k - l) (cap - l))) w:=by
       intro ad len cap l k e h3
       simp [execOp,ho,e,Instr.sliceAt,Instr.slice,run_underlying (ai.slice _ hd),h3,sizeOf,typeInfo,aj.info,aj.size]
      cases hv:ev st.t x with
      | nil=>
       rw [hv] at hxv hu
       simp only [cut] at hu
       split at hu
       ·rename_i lk hc
        obtain ⟨l,k⟩:=lk
        injection hu with hu
        subst hu
        obtain ⟨h1,h2,h3⟩:=i0q (P:=P) (hs:=hs) hc (Nat.le_refl _) true 0 (Nat.le_refl _)
        obtain rfl:k=0:=by omega
        obtain rfl:l=0:=by omega
        exact ⟨_,hrun _ _ _ _ _ hxv.nil_inv h3,by simp; exact .rd _ _ .nil⟩
       ·cases hu
      | sl s f xs=>
       rw [hv] at hxv hu
       simp only [cut] at hu
       split at hu
       ·rename_i hs'
        subst hs'
        split at hu
        ·rename_i l k hc
         injection hu with hu
         subst hu
         have hr:=hxv.sl_inv
         generalize hex:a.eval x=ex at hr
         cases hr with
         | empty _ _ ad cap=>
          obtain ⟨h1,h2,h3⟩:=i0q (P:=P) (hs:=hs) hc (Nat.le_refl _) true cap (Nat.zero_le _)
          simp only [List.length_nil] at h2 h3
          obtain rfl:k=0:=by omega
          obtain rfl:l=0:=by omega
          exact ⟨_,hrun _ _ _ _ _ hex h3,by simpa using VR.rd _ _ (Rd.empty _ _ _ _)⟩
         | sl _ _ _ kk o' cap g hl hcap hS hsz hf hg hr=>
          obtain ⟨h1,h2,h3⟩:=i0q (P:=P) (hs:=hs) hc (Nat.le_refl _) true cap hcap
          refine ⟨_,hrun _ _ _ _ _ hex h3,?_⟩
          simp only [Option.map_some,hadd]
          by_cases h0:l=k
          ·subst h0
           have:(xs.take l).drop l=[]:=by rw [List.drop_eq_nil_iff,List.length_take]; omega
           rw [this,Nat.sub_self]
           exact .rd _ _ (.empty _ _ _ _)
          ·rw [if_neg (by omega)]
           have e:=j1h (l:=l) h2
           obtain ⟨r1,r2,r3,r4⟩:=Rows.sub (w:=w) (S:=Γ.S) ⟨hsz,g,hg,hr⟩ h1 h2
           have:=Rd.sl (w:=w) (S:=Γ.S) j.size f ((xs.take k).drop l) kk (o' + l * j.size) (cap - l) r2 (by omega) (by omega) hS r1 (λ e x hx=>hf e x (List.mem_of_mem_take (List.mem_of_mem_drop hx))) r3 r4
           rw [e] at this
           exact .rd _ _ this
        ·cases hu
       ·cases hu
      | own b s q xs=>
       rw [hv] at hxv hu
       simp only [cut] at hu
       split at hu
       ·rename_i hs'
        subst hs'
        split at hu
        ·rename_i l k hc
         injection hu with hu
         subst hu
         rcases hxv.own_inv with ⟨e,e2,e0⟩ | ⟨e,hb,e1,hl,hr,hq⟩
         ·subst e2
          obtain ⟨h1,h2,h3⟩:=i0q (P:=P) (hs:=hs) hc (Nat.le_refl _) true 0 (Nat.le_refl _)
          simp only [List.length_nil] at h2 h3
          obtain rfl:k=0:=by omega
          obtain rfl:l=0:=by omega
          exact ⟨_,hrun _ _ _ _ _ e h3,by simpa using VR.view0 _ _ _ _ _ (.inl ⟨rfl,rfl,e0⟩)⟩
         ·obtain ⟨h1,h2,h3⟩:=i0q (P:=P) (hs:=hs) hc (Nat.le_refl _) true (Γ.cap b) hl.1
          refine ⟨_,hrun _ _ _ _ _ e h3,?_⟩
          simp only [Option.map_some,hadd]
          exact l1f hb hl.1 ⟨by rw [e1]; exact Nat.le_refl _,Nat.le_refl _⟩ hr hq hxv.own_uq h1 h2
        ·cases hu
       ·cases hu
      | view b s q xs=>
       rw [hv] at hxv hu
       simp only [cut] at hu
       split at hu
       ·rename_i hs'
        subst hs'
        split at hu
        ·rename_i l k hc
         injection hu with hu
         subst hu
         rcases hxv.view_inv with ⟨ad,cap,e,e2⟩ | ⟨o',cap,e,hb,_,hl,hfit,hr,hq⟩
         ·subst e2
          obtain ⟨h1,h2,h3⟩:=i0q (P:=P) (hs:=hs) hc (Nat.le_refl _) true cap (Nat.zero_le _)
          simp only [List.length_nil] at h2 h3
          obtain rfl:k=0:=by omega
          obtain rfl:l=0:=by omega
          rw [e] at hxv
          have h0:=hxv.view0_of
          have ha:(if cap=0 then ad else Option.map (λ x=>x.add 0) ad)=ad:=by
           split
           ·rfl
           ·rcases h0 with ⟨rfl,_⟩ | ⟨_,o,rfl,_⟩
            ·rfl
            ·simp [Addr.add]
          refine ⟨_,hrun _ _ _ _ _ e h3,?_⟩
          simp only [List.take_nil,List.drop_nil,Nat.zero_mul,Nat.sub_self,Nat.sub_zero]
          rw [ha]
          exact VR.view0 _ _ _ _ _ h0
         ·obtain ⟨h1,h2,h3⟩:=i0q (P:=P) (hs:=hs) hc (Nat.le_refl _) true cap hl
          refine ⟨_,hrun _ _ _ _ _ e h3,?_⟩
          simp only [Option.map_some,hadd]
          exact l1f hb hl hfit hr hq (by rw [e] at hxv; exact hxv.view_uq) h1 h2
        ·cases hu
       ·cases hu
      | _=>rw [hv] at hu; cases hu
     ·cases h
    ·cases h
   ·cases h
  ·cases h
theorem v0d {cs new cs':List V}{off:Nat}(h:o0v cs off new=some cs'):cs'.length=cs.length∧off+new.length≤cs.length:=by
 unfold o0v at h
 split at h
 ·rename_i hle
  injection h with h
  subst h
  simp; omega
 ·cases h
theorem g0t {cs new cs':List V}{off:Nat}(h:o0v cs off new=some cs')(j:Nat):cs'[j]? = if off≤j∧j < off+new.length then new[j - off]? else cs[j]?:=by
 unfold o0v at h
 split at h
 ·rename_i hle
  injection h with h
  subst h
  rw [List.append_assoc,List.getElem?_append,List.length_take,Nat.min_eq_left (by omega)]
  split
  ·rename_i h1
   rw [List.getElem?_take,if_pos h1,if_neg (by omega)]
  ·rename_i h1
   rw [List.getElem?_append]
   split
   ·rename_i h2
    rw [if_pos (by omega)]
   ·rename_i h2
    rw [List.getElem?_drop,if_neg (by omega)]
    congr 1
    omega
 ·cases h
theorem c1v (off:Nat):∀ (l:List (Value × Nat)) (vs:Array Value),(l.foldl (λ (cs:Array Value) (q:Value × Nat)=>cs.setIfInBounds (off+q.2) q.1) vs).size=vs.size:=by
 intro l
 induction l with
 | nil=>intro vs; rfl
 | cons q l ih=>intro vs; rw [List.foldl_cons,ih]; simp
theorem k1n (off:Nat):∀ (l:List Value) (n:Nat) (vs:Array Value),off+n+l.length≤vs.size → ∀ j:Nat,
  ((l.zipIdx n).foldl (λ (cs:Array Value) (q:Value × Nat)=>cs.setIfInBounds (off+q.2) q.1) vs)[j]? = if off+n≤j∧j < off+n+l.length then l[j - (off+n)]? else vs[j]?:=by
 intro l
 induction l with
 | nil=>
  intro n vs _ j
  rw [if_neg (by simp)]
  rfl
 | cons v l ih=>
  intro n vs h j
  rw [List.zipIdx_cons,List.foldl_cons,ih (n+1) _ (by simp at h ⊢; omega)]
  by_cases hj:j=off+n
  ·subst hj
   rw [if_neg (by omega),if_pos (by simp)]
   simp at h
   simp [Array.getElem?_setIfInBounds]
   omega
  ·by_cases h1:off+(n+1)≤j∧j < off+(n+1)+l.length
   ·rw [if_pos h1,if_pos (by simp; omega)]
    have:j - (off+n)=(j - (off+(n+1)))+1:=by omega
    rw [this,List.getElem?_cons_succ]
   ·rw [if_neg h1,if_neg (by simp; omega)]
    simp only [Array.getElem?_setIfInBounds]
    rw [if_neg (by omega)]
theorem i1c (hs:Sim Γ st a w)(place:Nat→Option (Nat × Nat))(place':Nat→Option (Nat × Nat))(hp:∀ i p,place i=some p→place' i=some p):∀ (ps:List (Nat × Operand)) (cs cs':List V) (vs:Array Value),
  cs.length=vs.size→(∀ (j:Nat) (u:V) (y:Value),cs[j]? = some u→vs[j]? = some y→VR Γ w u y) →
  w0v place cs (ps.map λ p=>(p.1,ev st.t p.2))=some cs' → ∃ vs',Instr.fill place' vs (ps.map λ p=>(p.1,a.eval p.2))=some vs' ∧ cs'.length=vs'.size ∧ ∀ (j:Nat) (u:V) (y:Value),cs'[j]? = some u→vs'[j]? = some y→VR Γ w u y:=by
 intro ps
 induction ps with
 | nil=>
  intro cs cs' vs hl hr h
  simp only [List.map_nil,w0v,sj_] at h
  subst h
  exact ⟨vs,rfl,hl,hr⟩
 | cons p ps ih=>
  intro cs cs' vs hl hr h
  obtain ⟨i,x⟩:=p
  simp only [List.map_cons,w0v] at h
  cases hpl:place i with
  | none=>rw [hpl] at h; cases h
  | some os=>
   obtain ⟨off,size⟩:=os
   rw [hpl] at h
   simp only at h
   split at h
   ·rename_i hsize
    obtain ⟨hsize,hdef⟩:=hsize
    cases ho:o0v cs off (ev st.t x).cells with
    | none=>rw [ho] at h; cases h
    | some cs1=>
     rw [ho] at h
     simp only at h
     obtain ⟨l1,l2⟩:=v0d ho
     have hx:=hs.ev x
     have hcl:=hx.cellLen hdef
     have hcell:=hx.cells hcl
     have hget:=k1n off (a.eval x).cells.toList 0 vs (by simp; omega)
     have hsz:=c1v off ((a.eval x).cells.toList.zipIdx 0) vs
     generalize he:((a.eval x).cells.toList.zipIdx 0).foldl (λ (cs:Array Value) (q:Value × Nat)=>cs.setIfInBounds (off+q.2) q.1) vs=vs1 at hget hsz
     have:=ih cs1 cs' vs1 (by omega) (λ j u y hu hy=>by
      rw [g0t ho] at hu
      rw [hget] at hy
      simp only [Nat.add_zero,Array.length_toList,Array.getElem?_toList] at hy
      rw [← hcl] at hy
      split at hu
      ·rename_i hj
       rw [if_pos hj] at hy
       obtain ⟨z,hz,hv⟩:=hcell _ _ hu
       rw [hz] at hy
       injection hy with hy
       subst hy
       exact hv
      ·rename_i hj
       rw [if_neg hj] at hy
       exact hr j u y hu hy) h
     obtain ⟨vs',f1,f2,f3⟩:=this
     refine ⟨vs',?_,f2,f3⟩
     simp only [List.map_cons,Instr.fill,hp _ _ hpl]
     rw [if_neg (by simp; omega)]
     rw [← f1,← he]
     congr 1
     rw [← Array.foldl_toList]
     simp
   ·cases h
theorem f1f (P:Program)(w:World):∀ (fl:List Field),(∀ f∈fl,∃ tj,P.info? f.type=some tj) →
    (fl.mapM λ f=>(do pure (f.offset,← sizeOf f.type):Sem (Nat × Nat))).run P w = .ok (fl.map λ f=>(f.offset,((P.info? f.type).map (·.size)).getD 0)) w:=by
  intro fl
  induction fl with
  | nil=>intro _; simp
  | cons f fl ih=>
    intro h
    obtain ⟨tj,hj⟩:=h f (by simp)
    rw [List.mapM_cons]
    simp only [Sem.run_bind,sizeOf,typeInfo,run_program,Result.andThen_ok,hj,Sem.run_pure]
    have:=ih (λ g hg=>h g (by simp [hg]))
    simp only [sizeOf,typeInfo] at this
    rw [this]
    simp [hj]
theorem e1r (hA:b0l P c)(hs:Sim Γ st a w){o:Oper}{t:TypeId}{ps:Array (Nat × Operand)}{v:V}(ho:o.op = .build t ps)(h:a0d c den (ev st.t) η d o.op=some (.val v)):d0o P Γ a w o v:=by
 rw [ho] at h
 simp only [a0d,plain] at h
 split at h
 ·rename_i i ht
  split at h
  case isFalse=>cases h
  rename_i hlays
  split at h
  ·rename_i cs hf
   simp only [sj_,Out.val.injEq] at h
   subst h
   obtain ⟨ti,ai⟩:=hA _ _ ht
   obtain ⟨z,hz,hz1,hz2,hz3,hz4⟩:=ai.zero
   have hzc:∀ (j:Nat) (u:V) (y:Value),i.zero.cells[j]? = some u→z.cells[j]? = some y→VR Γ w u y:=by
    intro j u y hu hy
    obtain ⟨y',h1,h2⟩:=hz4 j u hu
    rw [hy] at h1
    injection h1 with h1
    subst h1
    exact .rd _ _ (h2 w Γ.S)
   have e2:(ps.map λ (i,x)=>(i,a.eval x)).toList=ps.toList.map λ p=>(p.1,a.eval p.2):=by simp
   cases hd:i.d with
   | struct fs=>
    obtain ⟨fields,hfs,hmap,hinf⟩:=ai.struct fs hd
    rw [hd] at hf
    have hpl:∀ k p,c.place (.struct fs) k=some p→(fields.toList.map λ f=>(f.offset,((P.info? f.type).map (·.size)).getD 0))[k]? = some p:=by
     intro k p hk
     simp only [Cfg.place] at hk
     cases hk':fs[k]? with
     | none=>rw [hk'] at hk; cases hk
     | some ot=>
      obtain ⟨o',t'⟩:=ot
      rw [hk'] at hk
      simp only at hk
      cases hj:c.ty t' with
      | none=>rw [hj] at hk; cases hk
      | some j=>
       rw [hj] at hk
       simp only [Option.map_some,sj_] at hk
       subst hk
       obtain ⟨tj,aj⟩:=hA _ _ hj
       rw [← hmap,List.getElem?_map] at hk'
       rw [List.getElem?_map]
       cases hq:fields.toList[k]? with
       | none=>rw [hq] at hk'; cases hk'
       | some fl=>
        rw [hq] at hk'
        simp only [Option.map_some,sj_,Prod.mk.injEq] at hk'
        obtain ⟨rfl,rfl⟩:=hk'
        simp [aj.info,aj.size]
    obtain ⟨vs',f1,f2,f3⟩:=i1c hs (c.place (.struct fs)) (λ k=>(fields.toList.map λ f=>(f.offset,((P.info? f.type).map (·.size)).getD 0))[k]?) hpl ps.toList i.zero.cells cs z.cells (by rw [← hz2]; simp) hzc hf
    have hmm:=f1f P w fields.toList hinf
    refine ⟨.agg vs',?_,.agg _ _ f2 f3⟩
    simp only [execOp,ho,Instr.build,Sem.run_bind,zeroValue,typeInfo,run_program,Result.andThen_ok,ai.info,Sem.run_pure,hz,run_underlying hfs]
    rw [Array.mapM_eq_mapM_toList]
    simp only [Sem.run_map,hmm,Result.andThen_ok]
    rw [e2]
    have:(λ x:Nat=>(List.map (λ f=>(f.offset,(Option.map (λ x=>x.size) (P.info? f.type)).getD 0)) fields.toList).toArray[x]?)=λ k=>(fields.toList.map λ f=>(f.offset,((P.info? f.type).map (·.size)).getD 0))[k]?:=by
     funext k; simp
    rw [this,f1]
    rfl
   | array n e=>
    rw [hd] at hf
    have hu:=ai.array n e hd
    cases hj:c.ty e with
    | none=>rw [hd] at hlays; simp [Cfg.lays,hj] at hlays
    | some j=>
     obtain ⟨tj,aj⟩:=hA _ _ hj
     have hpl:∀ k p,c.place (.array n e) k=some p→some (k * j.size,j.size)=some p:=by
      intro k p hk
      simp only [Cfg.place,hj,Option.map_some] at hk
      exact hk
     obtain ⟨vs',f1,f2,f3⟩:=i1c hs (c.place (.array n e)) (λ k=>some (k * j.size,j.size)) hpl ps.toList i.zero.cells cs z.cells (by rw [← hz2]; simp) hzc hf
     refine ⟨.agg vs',?_,.agg _ _ f2 f3⟩
     simp only [execOp,ho,Instr.build,Sem.run_bind,zeroValue,typeInfo,run_program,Result.andThen_ok,ai.info,Sem.run_pure,hz,run_underlying hu,sizeOf,aj.info,aj.size]
     rw [e2,f1]
     rfl
   | _=>rw [hd] at hlays; cases hlays
  ·cases h
 ·cases h
end
end Go.Am
end
