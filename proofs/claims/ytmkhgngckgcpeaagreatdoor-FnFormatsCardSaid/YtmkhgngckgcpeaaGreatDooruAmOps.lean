/-
  Proved: lemmas for Rows.FnFormatsCardSaid.
-/
import Derived.Test.YtmkhgngckgcpeaaGreatDooruAmCore
import Derived.Test.YtmkhgngckgcpeaaGreatDoorProg
import Derived.Lib.LaidTab
import Derived.Lib.ItoaNum
import GoSem.Claims
import Derived.Laws.Cells
import Derived.Laws.CopyRow
import Derived.Laws.Entries
import Derived.Laws.StructEq
set_option linter.all false
section
namespace Go.Am
open Go
variable {P:Program}{c:Cfg}{ext:Nat->List V->Option V}
theorem Bz (b:St->Option (Ex×St))(d:St->St):∀(k:Nat) (st:St) (r:Ex×St),bw b d k st=some r->bw b d (k+1) st=some r:=by
 intro k;induction k with
 |zero=>intro st r h;simp[bw]at h
 |succ k g=>
  intro st r h;rw[bw]at h ⊢;cases f:b (d st)with
  |none=>rw[f]at h;simp at h
  |some x=>
   obtain⟨e,s⟩:=x;rw[f]at h;cases e with
   |normal=>exact g _ _ h
   |exit i=>exact h
   |ret=>exact h
theorem uJ {b:St->Option (Ex×St)}{d:St->St}{k m:Nat}{st:St}{r:Ex×St}(f:k<=m)(h:bw b d k st=some r):bw b d m st=some r:=by
  induction m with
  |zero=>obtain rfl:k=0:=by omega
         exact h
  |succ m g=>
   by_cases e:k=m+1;·subst e;exact h
   ·exact Bz _ _ _ _ _ (g (by omega))
open Classical in
noncomputable def bK:nX:=λb d st=>if h:∃(r:Ex×St) (k:Nat),bw b d k st=some r then some h.choose else none
theorem ij {b:St->Option (Ex×St)}{f:St->St}{st:St}{r:Ex×St}{k:Nat}(h:bw b f k st=some r):bK b f st=some r:=by have d:∃(r:Ex×St) (k:Nat),bw b f k st=some r:=⟨r,k,h⟩;unfold bK;rw[dif_pos d];obtain⟨m,g⟩:=d.choose_spec;have i:=uJ (Nat.le_max_left k m) h;have e:=uJ (Nat.le_max_right k m) g;rw[i]at e;injection e with e;rw[<-e]
theorem fP {b:St->Option (Ex×St)}{e:St->St}{st:St}{r:Ex×St}(h:bK b e st=some r):∃k,bw b e k st=some r:=by
 unfold bK at h;by_cases d:∃(r:Ex×St) (k:Nat),bw b e k st=some r;·rw[dif_pos d]at h;obtain⟨m,f⟩:=d.choose_spec;injection h with h;rw[h]at f;exact⟨m,f⟩
 ·rw[dif_neg d]at h;cases h
theorem uK (b:St->Option (Ex×St))(f:St->St)(st:St):bK b f st=match b (f st)with
  |some (.normal,s)=>bK b f s
  |r=>r:=by
 cases g:b (f st)with
 |none=>
  simp only;cases h:bK b f st with
  |none=>rfl
  |some r=>
   obtain⟨k,d⟩:=fP h;cases k with
   |zero=>simp[bw]at d
   |succ k=>rw[bw,g]at d;cases d
 |some x=>
  obtain⟨e,s⟩:=x;cases e with
  |normal=>
   simp only;cases h:bK b f s with
   |some r =>obtain⟨k,d⟩:=fP h;exact ij (k:=k+1) (by rw[bw,g];exact d)
   |none=>
    cases j:bK b f st with
    |none=>rfl
    |some r=>
     obtain⟨k,d⟩:=fP j;cases k with
     |zero=>simp[bw]at d
     |succ k =>rw[bw,g]at d;rw[ij d]at h;cases h
  |exit i=>exact ij (k:=1) (by rw[bw,g])
  |ret=>exact ij (k:=1) (by rw[bw,g])
def Le (a b:Nat->List V->Option V):Prop:=∀f args r,a f args=some r->b f args=some r
def g0p (A B:nX):Prop:=∀(f g:St->Option (Ex×St)) (b:St->St) (st:St) (r:Ex×St),(∀s r,f s=some r->g s=some r)->A f b st=some r->B g b st=some r
theorem xK {a b:Nat->List V->Option V}(h:Le a b){ρ:Operand->V}{η:Nat->Option V}{d:Nat}{l:Op}{r:Out}(e:aF c a ρ η d l=some r):aF c b ρ η d l=some r:=by
 cases l with
 |call q=>
  obtain⟨i,args,t⟩:=q;cases i with
  |value f=>
   simp only[aF]at e ⊢;cases n:ρ f with
   |clo g j=>
    rw[n]at e;simp only at e ⊢;cases hs:cE η (args.toList.map ρ++j)with
    |none=>rw[hs]at e;cases e
    |some vs=>
     rw[hs]at e;simp only at e ⊢;cases k:a g (cx (c.pz g) vs)with
     |none=>rw[k]at e;cases e
     |some x=>rw[k]at e;rw[h _ _ _ k];exact e
   |_=>rw[n]at e;cases e
  |invoke f m=>exact e
  |builtin o=>cases o<;>exact e
 |unOp u _ _=>cases u<;>exact e
 |makeFunc s _ _=>cases s<;>exact e
 |slice _ _ _ _ p=>cases p<;>exact e
 |_=>exact e
theorem Jf {a b:Nat->List V->Option V}(h:Le a b){st:St}{o:Oper}{r:St}(e:step c a st o=some r):step c b st o=some r:=by
 unfold step at e ⊢;split;·rename_i f;rw[if_pos f]at e;exact e
 ·rename_i f;rw[if_neg f]at e;cases i:o.dst with
  |none=>rw[i]at e;cases e
  |some d=>
   rw[i]at e;simp only at e ⊢;cases g:aF c a (ev st.t) (λb=>st.h.getD b none) d o.op with
   |none=>rw[g]at e;cases e
   |some x=>rw[xK h g];rw[g]at e;exact e
theorem By {a b:Nat->List V->Option V}(h:Le a b){st:St}{d:Option Nat}{f:Nat}{s:Io}{az:List Operand}{r:St}(e:fc c a st d f s az=some r):fc c b st d f s az=some r:=by
 unfold fc at e ⊢;cases d with
 |none=>cases e
 |some d=>
  simp only at e ⊢;cases i:lJ c st f s (az.map (ev st.t))with
  |none=>rw[i]at e;cases e
  |some p=>
   rw[i]at e;simp only at e ⊢;cases g:a f (gc :: p.args)with
   |none=>rw[g]at e;cases e
   |some x=>rw[h _ _ _ g];rw[g]at e;exact e
theorem xF {a b:Nat->List V->Option V}(h:Le a b){st:St}{o:Oper}{r:St}(d:dj c a st o=some r):dj c b st o=some r:=by
 unfold dj at d ⊢;cases e:mn c o.op with
 |none=>
  rw[e]at d;simp only at d ⊢;cases f:ll c o.op with
  |none=>rw[f]at d;exact Jf h d
  |some z=>rw[f]at d;exact By h d
 |some z=>rw[e]at d;exact d
theorem pm {a b:Nat->List V->Option V}(h:Le a b){ops:Array Oper}:∀(l:rf) (st r:St),aV c a ops l st=some r->aV c b ops l st=some r:=by
 intro l;induction l with
 |nil=>intro st r e;exact e
 |cons z l i=>
  obtain⟨o,f,z⟩:=z;intro g r e;rw[aV]at e ⊢;cases m:f g with
  |false=>rw[m]at e;cases e
  |true=>
  rw[m]at e;simp only at e ⊢;cases j:dG c g z with
  |none=>rw[j]at e;cases e
  |some st=>
  rw[j]at e;simp only at e ⊢;cases k:wanted ops st.t o with
  |none=>rw[k]at e;cases e
  |some t=>
   rw[k]at e;cases t with
   |true=>
    simp only at e ⊢;cases hs:dj c a st o with
    |none=>rw[hs]at e;cases e
    |some s=>rw[hs]at e;rw[xF h hs];exact i _ _ e
   |false=>
    simp only at e ⊢;cases n:o.dst with
    |none=>rw[n]at e;exact i _ _ e
    |some d=>rw[n]at e;exact i _ _ e
theorem gC {a b:Nat->List V->Option V}(h:Le a b){A B:nX}(F:g0p A B){n:xn}:∀(g:Code) (st:St) (r:Ex×St),bG c a A n g st=some r->bG c b B n g st=some r:=by
 intro g;induction g with
 |skip=>intro st r d;exact d
 |region E ops D=>
  intro st r d;rw[bG]at d ⊢;have j:∀p st r,(aV c a ops p st).map (λs=>(Ex.normal,s))=some r->(aV c b ops p st).map (λs=>(Ex.normal,s))=some r:=by
   intro p st r d;cases u:aV c a ops p st with
   |none=>rw[u]at d;cases d
   |some s=>rw[pm h _ _ _ u];rw[u]at d;exact d
  split;·rename_i m;rw[if_pos m]at d;exact j _ _ _ d
  ·rename_i m;rw[if_neg m]at d;exact j _ _ _ d
 |seq x y l q=>
  intro st r d;rw[bG]at d ⊢;cases f:bG c a A n x st with
  |none=>rw[f]at d;cases d
  |some z=>
   rw[f]at d;rw[l _ _ f];obtain⟨e,s⟩:=z;cases e with
   |normal=>exact q _ _ d
   |exit i=>exact d
   |ret=>exact d
 |cond x G k C o=>
  intro st r d;rw[bG]at d ⊢;cases f:ev st.t x with
  |bool t=>rw[f]at d;cases t<;>simp only at d ⊢<;>first|exact C _ _ d|exact o _ _ d
  |_=>rw[f]at d;cases d
 |block E k v=>
  intro st r d;rw[bG]at d ⊢;cases f:bG c a A n k st with
  |none=>rw[f]at d;cases d
  |some z=>rw[f]at d;rw[v _ _ f];exact d
 |loop k v=>
  intro st r d;rw[bG]at d ⊢;cases f:A (bG c a A n k) (λs=>s.head ((n (aM k)).1,(n (aM k)).2)) st with
  |none=>rw[f]at d;cases d
  |some z =>rw[F _ _ _ _ _ (λs r hs=>v s r hs) f];rw[f]at d;exact d
 |exit E=>intro st r d;exact d
 |ret=>intro st r d;exact d
 |_=>intro st r d;cases d
theorem d9 {k m:Nat}(h:k<=m):g0p (λb j st=>bw b j k st) (λb j st=>bw b j m st):=by
 intro f g j st r n d;refine uJ h ?_;clear h;induction k generalizing st with
 |zero=>simp[bw]at d
 |succ k o=>
  simp only[bw]at d ⊢;cases l:f (j st)with
  |none=>rw[l]at d;cases d
  |some x=>
   rw[n _ _ l];rw[l]at d;obtain⟨e,s⟩:=x;cases e with
   |normal=>exact o s d
   |exit i=>exact d
   |ret=>exact d
theorem Ee {a b:Nat->List V->Option V}(h:Le a b){A B:nX}(l:g0p A B){f:Nat}{e:Func}{args:List V}{r:V}(d:iv c a A f e args=some r):iv c b B f e args=some r:=by
 unfold iv at d ⊢;cases k:e.body with
 |none=>rw[k]at d;cases d
 |some g=>
  rw[k]at d;simp only at d ⊢;split at d;·cases d
  rename_i j;rw[if_neg j];cases i:bG c a A (c.fg f) g ⟨args++List.replicate (e.ntmps-args.length) .undef,List.replicate e.ntmps none,λ_=>false,false⟩with
  |none=>rw[i]at d;cases d
  |some z=>rw[gC h l _ _ _ i];rw[i]at d;exact d
theorem yH {a b:Nat->List V->Option V}(h:Le a b){A B:nX}(m:g0p A B){f:Nat}{s:Io}{j:Func}{args:List V}{r:V}(d:d6 c a A f s j args=some r):d6 c b B f s j args=some r:=by
 unfold d6 at d ⊢;cases l:j.body with
 |none=>rw[l]at d;cases d
 |some e=>
  rw[l]at d;simp only at d ⊢;split at d;·cases d
  rename_i k;rw[if_neg k];split at d
  ·rename_i g;rw[if_pos g];cases i:bG c a A (c.fg (1000000+f)) e (ry s args)with
   |none=>rw[i]at d;cases d
   |some z=>rw[gC h m _ _ _ i];rw[i]at d;exact d
  ·cases d
theorem Be:∀k,Le (eH P c ext k) (eH P c ext (k+1)):=by
 intro k;induction k with
 |zero=>intro f args r h;cases h
 |succ k j=>
  intro f args r h;rw[eH]at h ⊢;cases b:d7 args with
  |some l=>
   rw[b]at h;simp only at h ⊢;cases i:c.io f with
   |none=>rw[i]at h;cases h
   |some s=>
    rw[i]at h;cases d:P.funcs[f]? with
    |none=>rw[d]at h;cases h
    |some m=>
     rw[d]at h;simp only at h ⊢;split at h;·cases h
     ·rename_i e;rw[if_neg e];exact yH j (d9 (by omega)) h
  |none=>
   rw[b]at h;simp only at h ⊢;cases g:ext f args with
   |some x=>rw[g]at h;exact h
   |none=>
    rw[g]at h;simp only at h ⊢;cases d:P.funcs[f]? with
    |none=>rw[d]at h;cases h
    |some m=>
     rw[d]at h;simp only at h ⊢;split at h;·cases h
     ·rename_i e;rw[if_neg e];exact Ee j (d9 (by omega)) h
theorem eU {k m:Nat}(h:k<=m):Le (eH P c ext k) (eH P c ext m):=by
  induction m with
  |zero=>obtain rfl:k=0:=by omega
         intro f args r h;exact h
  |succ m d=>
   by_cases e:k=m+1;·subst e;intro f args r h;exact h
   ·intro f args r b;exact Be m f args r (d (by omega) f args r b)
open Classical in
noncomputable def den (P:Program)(c:Cfg)(ext:Nat->List V->Option V)(f:Nat)(args:List V):Option V:=
 if h:∃(r:V) (k:Nat),eH P c ext k f args=some r then some h.choose else none
theorem yB {f:Nat}{args:List V}{r:V}{k:Nat}(h:eH P c ext k f args=some r):den P c ext f args=some r:=by have b:∃(r:V) (k:Nat),eH P c ext k f args=some r:=⟨r,k,h⟩;unfold den;rw[dif_pos b];obtain⟨m,e⟩:=b.choose_spec;have g:=eU (Nat.le_max_left k m) _ _ _ h;have d:=eU (Nat.le_max_right k m) _ _ _ e;rw[g]at d;injection d with d;rw[<-d]
theorem pB {f:Nat}{args:List V}{r:V}(h:den P c ext f args=some r):∃k,eH P c ext k f args=some r:=by
 unfold den at h;by_cases b:∃(r:V) (k:Nat),eH P c ext k f args=some r;·rw[dif_pos b]at h;obtain⟨m,d⟩:=b.choose_spec;injection h with h;rw[h]at d;exact⟨m,d⟩
 ·rw[dif_neg b]at h;cases h
theorem CU {ρ:Operand->V}{η:Nat->Option V}{d:Nat}{j:Op}{r:Out}(b:aF c (den P c ext) ρ η d j=some r):∃k,aF c (eH P c ext k) ρ η d j=some r:=by
 cases j with
 |call q=>
  obtain⟨e,args,t⟩:=q;cases e with
  |value f=>
   simp only[aF]at b ⊢;cases l:ρ f with
   |clo g h=>
    rw[l]at b;simp only at b ⊢;cases hs:cE η (args.toList.map ρ++h)with
    |none=>rw[hs]at b;cases b
    |some vs=>
     rw[hs]at b;simp only at b ⊢;cases i:den P c ext g (cx (c.pz g) vs)with
     |none=>rw[i]at b;cases b
     |some x =>rw[i]at b;obtain⟨k,n⟩:=pB i;exact⟨k,by rw[n];exact b⟩
   |_=>rw[l]at b;cases b
  |invoke f m=>exact⟨0,b⟩
  |builtin o=>cases o<;>exact⟨0,b⟩
 |unOp u _ _=>cases u<;>exact⟨0,b⟩
 |makeFunc s _ _=>cases s<;>exact⟨0,b⟩
 |slice _ _ _ _ p=>cases p<;>exact⟨0,b⟩
 |_=>exact⟨0,b⟩
theorem Ff {st:St}{o:Oper}{r:St}(e:step c (den P c ext) st o=some r):∃k,step c (eH P c ext k) st o=some r:=by
 unfold step at e ⊢;split;·rename_i f;rw[if_pos f]at e;exact⟨0,e⟩
 ·rename_i f;rw[if_neg f]at e;cases i:o.dst with
  |none=>rw[i]at e;cases e
  |some d=>
   rw[i]at e;simp only at e ⊢;cases g:aF c (den P c ext) (ev st.t) (λb=>st.h.getD b none) d o.op with
   |none=>rw[g]at e;cases e
   |some x =>obtain⟨k,j⟩:=CU g;exact⟨k,by rw[j];rw[g]at e;exact e⟩
theorem yN {st:St}{d:Option Nat}{f:Nat}{s:Io}{az:List Operand}{r:St}(b:fc c (den P c ext) st d f s az=some r):∃k,fc c (eH P c ext k) st d f s az=some r:=by
 unfold fc at b ⊢;cases d with
 |none=>cases b
 |some d=>
  simp only at b ⊢;cases g:lJ c st f s (az.map (ev st.t))with
  |none=>rw[g]at b;cases b
  |some p=>
   rw[g]at b;simp only at b ⊢;cases e:den P c ext f (gc :: p.args)with
   |none=>rw[e]at b;cases b
   |some x =>rw[e]at b;obtain⟨k,h⟩:=pB e;exact⟨k,by rw[h];exact b⟩
theorem CL {st:St}{o:Oper}{r:St}(b:dj c (den P c ext) st o=some r):∃k,dj c (eH P c ext k) st o=some r:=by
 unfold dj at b ⊢;cases d:mn c o.op with
 |none=>
  rw[d]at b;simp only at b ⊢;cases e:ll c o.op with
  |none=>rw[e]at b;exact Ff b
  |some z=>rw[e]at b;exact yN b
 |some z=>rw[d]at b;exact⟨0,b⟩
theorem ww {ops:Array Oper}:∀(l:rf) (st r:St),aV c (den P c ext) ops l st=some r -> ∃k,aV c (eH P c ext k) ops l st=some r:=by
 intro l;induction l with
 |nil=>intro st r b;exact⟨0,b⟩
 |cons z l g=>
  obtain⟨o,f,z⟩:=z;intro e r b;simp only[aV]at b ⊢;cases j:f e with
  |false=>rw[j]at b;cases b
  |true=>
  rw[j]at b;simp only at b ⊢;cases h:dG c e z with
  |none=>rw[h]at b;cases b
  |some st=>
  rw[h]at b;simp only at b ⊢;cases i:wanted ops st.t o with
  |none=>rw[i]at b;cases b
  |some t=>
   rw[i]at b;cases t with
   |true=>
    simp only at b ⊢;cases hs:dj c (den P c ext) st o with
    |none=>rw[hs]at b;cases b
    |some s =>rw[hs]at b;obtain⟨k,p⟩:=CL hs;obtain⟨m,q⟩:=g _ _ b;refine⟨max k m,?_⟩;rw[xF (eU (Nat.le_max_left k m)) p];exact pm (eU (Nat.le_max_right k m)) _ _ _ q
   |false=>
    simp only at b ⊢;cases n:o.dst with
    |none=>rw[n]at b;exact g _ _ b
    |some d=>rw[n]at b;exact g _ _ b
theorem vz {n:xn}:∀(g:Code) (st:St) (r:Ex×St),bG c (den P c ext) bK n g st=some r -> ∃k,bG c (eH P c ext k) (λb u st=>bw b u k st) n g st=some r:=by
 intro g;induction g with
 |skip=>intro st r d;exact⟨0,d⟩
 |region J ops I=>
  intro st r d;simp only[bG]at d ⊢;have q:∀p st r,(aV c (den P c ext) ops p st).map (λs=>(Ex.normal,s))=some r -> ∃k,(aV c (eH P c ext k) ops p st).map (λs=>(Ex.normal,s))=some r:=by
   intro p st r d;cases E:aV c (den P c ext) ops p st with
   |none=>rw[E]at d;cases d
   |some s =>obtain⟨k,h⟩:=ww _ _ _ E;exact⟨k,by rw[h];rw[E]at d;exact d⟩
  split;·rename_i u;rw[if_pos u]at d;exact q _ _ _ d
  ·rename_i u;rw[if_neg u]at d;exact q _ _ _ d
 |seq x y F A=>
  intro st r d;simp only[bG]at d ⊢;cases f:bG c (den P c ext) bK n x st with
  |none=>rw[f]at d;cases d
  |some z=>
   rw[f]at d;obtain⟨k,h⟩:=F _ _ f;obtain⟨e,s⟩:=z;cases e with
   |normal =>obtain⟨m,G⟩:=A _ _ d;refine⟨max k m,?_⟩;rw[gC (eU (Nat.le_max_left k m)) (d9 (Nat.le_max_left k m)) _ _ _ h];exact gC (eU (Nat.le_max_right k m)) (d9 (Nat.le_max_right k m)) _ _ _ G
   |exit i=>exact⟨k,by rw[h];exact d⟩
   |ret=>exact⟨k,by rw[h];exact d⟩
 |cond x L l C B=>
  intro st r d;simp only[bG]at d ⊢;cases f:ev st.t x with
  |bool t=>rw[f]at d;cases t<;>simp only at d ⊢<;>first|exact C _ _ d|exact B _ _ d
  |_=>rw[f]at d;cases d
 |block J l H=>
  intro st r d;simp only[bG]at d ⊢;cases f:bG c (den P c ext) bK n l st with
  |none=>rw[f]at d;cases d
  |some z =>rw[f]at d;obtain⟨k,h⟩:=H _ _ f;exact⟨k,by rw[h];exact d⟩
 |loop l H=>
  intro st r d;simp only[bG]at d ⊢;cases f:bK (bG c (den P c ext) bK n l) (λs=>s.head ((n (aM l)).1,(n (aM l)).2)) st with
  |none=>rw[f]at d;cases d
  |some K=>
  rw[f]at d;obtain⟨j,o⟩:=fP f;clear f
  suffices hsuf:∃k,bw (bG c (eH P c ext k) (λb u st=>bw b u k st) n l) (λs=>s.head ((n (aM l)).1,(n (aM l)).2)) k st=some K by obtain⟨k,h⟩:=hsuf;exact⟨k,by rw[h];exact d⟩
  clear d;induction j generalizing st with
  |zero=>simp[bw]at o
  |succ j v=>
   rw[bw]at o;cases D:bG c (den P c ext) bK n l (st.head ((n (aM l)).1,(n (aM l)).2))with
   |none=>rw[D]at o;cases o
   |some z=>
    rw[D]at o;obtain⟨k,h⟩:=H _ _ D;obtain⟨e,s⟩:=z;cases e with
    |normal =>obtain⟨m,G⟩:=v s o;refine⟨max k m+1,?_⟩;rw[bw,gC (eU (by omega)) (d9 (by omega)) _ _ _ h];exact d9 (Nat.le_max_right k m) _ _ _ _ _ (λs r hs=>gC (eU (by omega)) (d9 (by omega)) _ _ _ hs) G
    |exit i=>exact⟨k+1,by rw[bw,gC (eU (by omega)) (d9 (by omega)) _ _ _ h];exact o⟩
    |ret=>exact⟨k+1,by rw[bw,gC (eU (by omega)) (d9 (by omega)) _ _ _ h];exact o⟩
 |exit J=>intro st r d;exact⟨0,d⟩
 |ret=>intro st r d;exact⟨0,d⟩
 |_=>intro st r d;cases d
theorem IS {f:Nat}{b:Func}{args:List V}{r:V}(i:d7 args=none)(m:ext f args=none)(o:P.funcs[f]?=some b)(j:(b.name == "runtime.NumGoroutine")=false)(h:iv c (den P c ext) bK f b args=some r):den P c ext f args=some r:=by
 unfold iv at h;cases e:b.body with
 |none=>rw[e]at h;cases h
 |some d=>
  rw[e]at h;simp only at h;split at h;·cases h
  rename_i l;cases g:bG c (den P c ext) bK (c.fg f) d ⟨args++List.replicate (b.ntmps-args.length) .undef,List.replicate b.ntmps none,λ_=>false,false⟩with
  |none=>rw[g]at h;cases h
  |some z =>obtain⟨k,n⟩:=vz _ _ _ g;refine yB (k:=k+1) ?_;rw[eH,i,m];simp only[o,j];rw[if_neg (by simp)];unfold iv;rw[e];simp only;rw[if_neg l];rw[n];rw[g]at h;exact h
theorem IR {f:Nat}{args:List V}{r:V}(b:d7 args=none)(d:ext f args=some r):den P c ext f args=some r:=yB (k:=1) (by rw[eH,b,d])
theorem Bf {f:Nat}{s:Io}{d:Func}{args:List V}{r:V}(hs:c.io f=some s)(o:P.funcs[f]?=some d)(g:(d.name == "runtime.NumGoroutine")=false)(h:d6 c (den P c ext) bK f s d args=some r):den P c ext f (gc :: args)=some r:=by
 unfold d6 at h;cases i:d.body with
 |none=>rw[i]at h;cases h
 |some b=>
  rw[i]at h;simp only at h;split at h;·cases h
  rename_i m;split at h
  ·rename_i l;cases e:bG c (den P c ext) bK (c.fg (1000000+f)) b (ry s args)with
   |none=>rw[e]at h;cases h
   |some z =>obtain⟨k,n⟩:=vz _ _ _ e;refine yB (k:=k+1) ?_;have j:d7 (gc :: args)=some args:=rfl;rw[eH,j];simp only[hs,o,g];rw[if_neg (by simp)];unfold d6;rw[i];simp only;rw[if_neg m,if_pos l];rw[n];rw[e]at h;exact h
  ·cases h
theorem vg (st:St):st.calm.dup=false:=by
 unfold St.calm;split;·rfl
 ·assumption
theorem mU (st:St)(fs:List Nat×List Nat):(st.head fs).dup=false:=by
 have e:∀(b:List Nat) (i:Nat) (s:St),(St.owns b i s).dup=s.dup:=by
  intro b;induction b with
  |nil=>intro i s;rfl
  |cons n b d=>
   intro i s;rw[St.owns,d];split
   ·unfold St.own1 St.take1
    repeat' split
    all_goals rfl
   ·rfl
 unfold St.head St.head0;simp only;split;·exact vg st
 ·exact(e _ _ _).trans (vg st)
theorem kO (st:St)(fs:List Nat×List Nat):(st.head fs).dead=λ_=>false:=by unfold St.head St.head0;simp only;split<;>rfl
end Go.Am
end
section
namespace Go.Am
open Go Go.Proofs
def nk:Nat:=2
def lh (w:World):Prop:=Lib.TabIs Tryz.prog w "internal/strconv.uint64pow10" .u64 Lib.pow10Tab
theorem globNo:Tryz.prog.globalNamed "internal/strconv.uint64pow10" = some 1:=by kernel_rfl
theorem li (w w':World)(h:lh w)(b:∀k,k<nk->w'.heap[k]?=w.heap[k]?):lh w':=by unfold lh Lib.TabIs World.var? at h ⊢;rw[globNo]at h ⊢;simp only[Option.bind_some]at h ⊢;rw[b 1 (by decide)];exact h
theorem Qb {w:World}(h:lh w):nk<=w.heap.size:=by
 unfold lh Lib.TabIs World.var? at h;rw[globNo]at h;simp only[Option.bind_some]at h;cases hh:w.heap[1]? with
 |none=>rw[hh]at h;cases h
 |some o=>exact(Array.getElem?_eq_some_iff.1 hh).1
end Go.Am
end
section
namespace Go.Am
open Go Go.RowKit
def gf:V->Prop
 |.bool _=>True
 |.int _ _=>True
 |.str _=>True
 |.nil=>True
 |_=>False
inductive Rd (w:World) (S:Nat->Prop):V->Value->Prop
  |undef (x:Value):Rd w S .undef x
  |bool (b:Bool):Rd w S (.bool b) (.bool b)
  |int (k:IntKind) (n:Int):Rd w S (.int k n) (.int k n)
  |str (s:List UInt8) (x:ByteArray) (h:x.data.toList=s):Rd w S (.str s) (.string x)
  |nil:Rd w S .nil (.slice none 0 0)
  |empty (s:Nat) (f:Bool) (a:Option Addr) (cap:Nat):Rd w S (.sl s f []) (.slice a 0 cap)
  |sl (s:Nat) (f:Bool) (xs:List V) (k o cap:Nat) (g:Nat->Nat->Value) (hl:0<xs.length) (hcap:xs.length<=cap) (hS:S k)
     (hsz:∀x∈xs,x.cells.length=s) (hf:f=true -> ∀x∈xs,∀c∈x.cells,gf c)
     (hg:∀i j:Nat,i<xs.length->j<s->w.cell? ⟨k,o+i*s+j,none⟩=some (g i j)/\(g i j).oneCell'=true)
     (hr:∀(i:Nat) (x:V) (j:Nat) (c:V),xs[i]?=some x->x.cells[j]?=some c->Rd w S c (g i j)):Rd w S (.sl s f xs) (.slice (some ⟨k,o,none⟩) xs.length cap)
  |iptr (x:V) (k o n:Nat) (g:Nat->Value) (hS:S k) (hg:∀j:Nat,j<x.cells.length->w.cell? ⟨k,o+j,none⟩=some (g j))
     (hr:∀(j:Nat) (c:V),x.cells[j]?=some c->Rd w S c (g j)):Rd w S (.iptr x n) (.pointer (some ⟨k,o+n,none⟩))
  |agg (cs:List V) (vs:Array Value) (hl:cs.length=vs.size) (hr:∀(i:Nat) (c:V) (v:Value),cs[i]?=some c->vs[i]?=some v->Rd w S c v):Rd w S (.agg cs) (.agg vs)
  |tup (cs:List V) (vs:Array Value) (hl:cs.length=vs.size) (hr:∀(i:Nat) (c:V) (v:Value),cs[i]?=some c->vs[i]?=some v->Rd w S c v):Rd w S (.tup cs) (.tuple vs)
  |clo (f:Nat) (cs:List V) (vs:Array Value) (hl:cs.length=vs.size) (hr:∀(i:Nat) (c:V) (v:Value),cs[i]?=some c->vs[i]?=some v->Rd w S c v):Rd w S (.clo f cs) (.func (.func f) #[] vs)
theorem Rd.mono {w w':World}{S S':Nat->Prop}(A:∀k,S k->S' k)(y:∀k,S k -> ∀o,w'.cell? ⟨k,o,none⟩=w.cell? ⟨k,o,none⟩){v:V}{x:Value}(h:Rd w S v x):Rd w' S' v x:=by
 induction h with
 |undef x=>exact .undef x
 |bool b=>exact .bool b
 |int k n=>exact .int k n
 |str s x h=>exact .str s x h
 |nil=>exact .nil
 |empty s f a e=>exact .empty s f a e
 |sl s f xs k o e g l p m u B q t d=>exact .sl s f xs k o e g l p (A k m) u B (λi j z r=>⟨(y k m _).trans (q i j z r).1,(q i j z r).2⟩) d
 |iptr x k o n g m q t d=>exact .iptr x k o n g (A k m) (λj r=>(y k m _).trans (q j r)) d
 |agg cs vs l t d=>exact .agg cs vs l d
 |tup cs vs l t d=>exact .tup cs vs l d
 |clo f cs vs l t d=>exact .clo f cs vs l d
def Rows (w:World)(S:Nat->Prop)(s:Nat)(xs:List V)(k o:Nat):Prop:=
 (∀x∈xs,x.cells.length=s) /\ ∃g:Nat->Nat->Value,(∀i j:Nat,i<xs.length->j<s->w.cell? ⟨k,o+i*s+j,none⟩=some (g i j)/\(g i j).oneCell'=true) /\
 ∀(i:Nat) (x:V) (j:Nat) (c:V),xs[i]?=some x->x.cells[j]?=some c->Rd w S c (g i j)
theorem Rows.mono {w w':World}{S S':Nat->Prop}(q:∀k,S k->S' k)(m:∀k,S k -> ∀o,w'.cell? ⟨k,o,none⟩=w.cell? ⟨k,o,none⟩){s:Nat}{xs:List V}{k o:Nat}
  (n:∀j,o<=j->j<o+xs.length*s->w'.cell? ⟨k,j,none⟩=w.cell? ⟨k,j,none⟩) (h:Rows w S s xs k o):Rows w' S' s xs k o:=by
 obtain⟨r,g,e,p⟩:=h;refine⟨r,g,λi j b f=>⟨?_,(e i j b f).2⟩,λi x j c l d=>(p i x j c l d).mono q m⟩;rw[n _ (by omega) ?_];·exact(e i j b f).1
 ·have:i*s+s<=xs.length*s:=by have:=Nat.mul_le_mul_right s (show i+1<=xs.length from b);rw[Nat.add_mul,Nat.one_mul]at this;exact this
  omega
inductive Tr (w:World):V->Value->(Nat->Prop)->Prop
  |leaf (v:V) (x:Value) (T:Nat->Prop) (h:gf v):Tr w v x T
  |undef (x:Value) (T:Nat->Prop):Tr w .undef x T
  |empty (s:Nat) (f:Bool) (a:Option Addr) (cap:Nat) (T:Nat->Prop):Tr w (.sl s f []) (.slice a 0 cap) T
  |sl (s:Nat) (f:Bool) (xs:List V) (k o cap:Nat) (g:Nat->Nat->Value) (T:Nat->Nat->Nat->Prop) (T':Nat->Prop) (hl:0<xs.length)
     (hg:∀i j:Nat,i<xs.length->j<s->w.cell? ⟨k,o+i*s+j,none⟩=some (g i j)) (hr:∀(i:Nat) (x:V) (j:Nat) (c:V),xs[i]?=some x->x.cells[j]?=some c->Tr w c (g i j) (T i j))
     (hd:∀i j i' j' m,T i j m->T i' j' m->i=i'/\j=j') (hk:∀i j,¬T i j k) (h0:T' k) (hT:∀i j m,T i j m->T' m) (hm:cap<=maxLen /\ ∀j:Nat,j<cap*s->(w.cell? ⟨k,o+j,none⟩).isSome=true):Tr w (.sl s f xs) (.slice (some ⟨k,o,none⟩) xs.length cap) T'
theorem Tr.mono {w w':World}{v:V}{x:Value}{T:Nat->Prop}(h:Tr w v x T)(d:∀k,T k -> ∀o,w'.cell? ⟨k,o,none⟩=w.cell? ⟨k,o,none⟩):Tr w' v x T:=by
 induction h with
 |leaf v x T h=>exact .leaf v x T h
 |empty s f a b T=>exact .empty s f a b T
 |undef x T=>exact .undef x T
 |sl s f xs k o b g T T' t y B z e m p q A=>exact .sl s f xs k o b g T T' t (λi j u l=>(d k m _).trans (y i j u l)) (λi x j c r n=>A i x j c r n (λk e=>d k (p i j k e))) z e m p ⟨q.1,λj l=>by rw[d k m];exact q.2 j l⟩
theorem Tr.weaken {w:World}{v:V}{x:Value}{T d:Nat->Prop}(h:Tr w v x T)(n:∀m,T m->d m):Tr w v x d:=by
 cases h with
 |leaf v x T h=>exact .leaf v x d h
 |empty s f a b T=>exact .empty s f a b d
 |undef x T=>exact .undef x d
 |sl s f xs k o b g T T' q r t u p y e l=>exact .sl s f xs k o b g T d q r t u p (n k y) (λi j m z=>n m (e i j m z)) l
def TrRows (w:World)(N:Nat->Prop)(s:Nat)(xs:List V)(k o:Nat):Prop:=
 ∃(g:Nat->Nat->Value) (T:Nat->Nat->Nat->Prop),(∀i j:Nat,i<xs.length->j<s->w.cell? ⟨k,o+i*s+j,none⟩=some (g i j)) /\
 (∀(i:Nat) (x:V) (j:Nat) (c:V),xs[i]?=some x->x.cells[j]?=some c->Tr w c (g i j) (T i j))/\(∀i j b d m,T i j m->T b d m->i=b/\j=d) /\ ∀i j m,T i j m->N m
theorem TrRows.mono {w w':World}{N l:Nat->Prop}{s:Nat}{xs:List V}{k o:Nat}(r:∀k,N k->l k)(p:∀k,N k -> ∀o,w'.cell? ⟨k,o,none⟩=w.cell? ⟨k,o,none⟩)
  (b:∀j,o<=j->j<o+xs.length*s->w'.cell? ⟨k,j,none⟩=w.cell? ⟨k,j,none⟩) (h:TrRows w N s xs k o):TrRows w' l s xs k o:=by
 obtain⟨g,T,y,t,q,f⟩:=h;refine⟨g,T,λi j e v=>?_,λi x j c n d=>(t i x j c n d).mono (λk b=>p k (f i j k b)),q,λi j m u=>r m (f i j m u)⟩;rw[b _ (by omega) ?_];·exact y i j e v
 ·have:i*s+s<=xs.length*s:=by have:=Nat.mul_le_mul_right s (show i+1<=xs.length from e);rw[Nat.add_mul,Nat.one_mul]at this;exact this
  omega
def flatOk (q:Q)(xs:List V):Prop:=q = .flat -> ∀x∈xs,∀c∈x.cells,gf c
structure Ctx where
  w0:World
  F:Nat->Prop
  S:Nat->Prop
  has:Nat->Prop
  blk:Nat->Nat
  off:Nat->Nat
  cap:Nat->Nat
  sz:Nat->Nat
  ln:Nat->Nat
  lb:Nat->Prop
  box:Nat->Nat
  R:Nat->Prop
  Z:Nat->Prop
  N:Nat->Nat->Prop
  U:Prop
  Y:Nat->Prop:=λ_=>False
  nt:Nat:=0
def Ctx.Uq (Γ:Ctx)(w:World)(q:Q)(b s:Nat)(xs:List V)(k o:Nat):Prop:=q = .clean->Γ.U->TrRows w (λm=>Γ.N b m/\Γ.S m) s xs k o
theorem Ctx.Uq.mono {Γ Γ':Ctx}{w w':World}{q:Q}{b s:Nat}{xs:List V}{k o:Nat}(i:Γ'.U->Γ.U)(l:∀m,Γ.N b m->Γ'.N b m)(n:∀m,Γ.S m->Γ'.S m)(g:∀k,Γ.S k -> ∀o,w'.cell? ⟨k,o,none⟩=w.cell? ⟨k,o,none⟩)
  (e:∀j,o<=j->j<o+xs.length*s->w'.cell? ⟨k,j,none⟩=w.cell? ⟨k,j,none⟩) (h:Γ.Uq w q b s xs k o):Γ'.Uq w' q b s xs k o:=
 λp d=>(h p (i d)).mono (λm f=>⟨l m f.1,n m f.2⟩) (λk e=>g k e.2) e
def Ctx.Sq (Γ:Ctx):Q->Nat->Prop
 |.any=>Γ.S
 |_=>λk=>Γ.S k/\Γ.Z k
def V0 (Γ:Ctx)(b s:Nat)(a:Option Addr)(d:Nat):Prop:=(a=none/\d=0 /\ ¬Γ.has b)\/(Γ.has b /\ ∃o,a=some ⟨Γ.blk b,o,none⟩/\(o+d*s<=Γ.off b+Γ.cap b*Γ.sz b/\d<=Γ.cap b))
theorem V0.to {Γ Γ':Ctx}{b d s:Nat}{a:Option Addr}{f:Nat}(h:V0 Γ b s a f)(k:Γ'.has d↔Γ.has b)(e:Γ.has b->Γ'.blk d=Γ.blk b/\Γ'.off d=Γ.off b/\Γ'.cap d=Γ.cap b/\Γ'.sz d=Γ.sz b):V0 Γ' d s a f:=by
 rcases h with⟨g,j,i⟩|⟨g,o,j,i⟩;·exact .inl ⟨g,j,λh=>i (k.1 h)⟩
 ·obtain⟨p,m,l,n⟩:=e g;exact .inr ⟨k.2 g,o,by rw[p];exact j,by rw[m,l,n];exact i⟩
inductive VR (Γ:Ctx) (w:World):V->Value->Prop
  |rd (v:V) (x:Value) (h:Rd w Γ.S v x):VR Γ w v x
  |ownNil (b s:Nat) (q:Q) (hb:Γ.has b->False):VR Γ w (.own b s q []) (.slice none 0 0)
  |own (b s:Nat) (q:Q) (xs:List V) (hb:Γ.has b) (hs:s=Γ.sz b) (hl:xs.length<=Γ.cap b/\xs.length=Γ.ln b) (hr:Rows w (Γ.Sq q) s xs (Γ.blk b) (Γ.off b)) (hq:flatOk q xs) (hu:Γ.Uq w q b s xs (Γ.blk b) (Γ.off b)) :
     VR Γ w (.own b s q xs) (.slice (some ⟨Γ.blk b,Γ.off b,none⟩) xs.length (Γ.cap b))
  |view0 (b s:Nat) (q:Q) (a:Option Addr) (cap:Nat) (h0:V0 Γ b s a cap):VR Γ w (.view b s q []) (.slice a 0 cap)
  |view (b s:Nat) (q:Q) (xs:List V) (o cap:Nat) (hb:Γ.has b) (hx:0<xs.length) (hl:xs.length<=cap) (hfit:o+cap*s<=Γ.off b+Γ.cap b*Γ.sz b/\cap<=Γ.cap b) (hr:Rows w (Γ.Sq q) s xs (Γ.blk b) o) (hq:flatOk q xs) (hu:Γ.Uq w q b s xs (Γ.blk b) o) :
     VR Γ w (.view b s q xs) (.slice (some ⟨Γ.blk b,o,none⟩) xs.length cap)
  |ptr (d n:Nat) (hd:Γ.lb d):VR Γ w (.ptr d n) (.pointer (some ⟨Γ.box d,n,none⟩))
  |eptr (b s:Nat) (q:Q) (xs:List V) (i n:Nat) (hb:Γ.has b) (hs:s=Γ.sz b) (hl:xs.length<=Γ.cap b/\xs.length=Γ.ln b) (hi:i<xs.length) (hr:Rows w (Γ.Sq q) s xs (Γ.blk b) (Γ.off b)) (hq:flatOk q xs) (hu:Γ.Uq w q b s xs (Γ.blk b) (Γ.off b)) :
     VR Γ w (.eptr b s q xs i n) (.pointer (some ⟨Γ.blk b,Γ.off b+i*s+n,none⟩))
  |vptr (b:Nat) (x:V) (o n:Nat) (g:Nat->Value) (hb:Γ.has b) (hg:∀j:Nat,j<x.cells.length->w.cell? ⟨Γ.blk b,o+j,none⟩=some (g j)) (hr:∀(j:Nat) (c:V),x.cells[j]?=some c->Rd w Γ.S c (g j)) :
     VR Γ w (.vptr b x n) (.pointer (some ⟨Γ.blk b,o+n,none⟩))
  |agg (cs:List V) (vs:Array Value) (hl:cs.length=vs.size) (hr:∀(i:Nat) (c:V) (v:Value),cs[i]?=some c->vs[i]?=some v->VR Γ w c v):VR Γ w (.agg cs) (.agg vs)
  |tup (cs:List V) (vs:Array Value) (hl:cs.length=vs.size) (hr:∀(i:Nat) (c:V) (v:Value),cs[i]?=some c->vs[i]?=some v->VR Γ w c v):VR Γ w (.tup cs) (.tuple vs)
  |clo (f:Nat) (cs:List V) (vs:Array Value) (hl:cs.length=vs.size) (hr:∀(i:Nat) (c:V) (v:Value),cs[i]?=some c->vs[i]?=some v->VR Γ w c v):VR Γ w (.clo f cs) (.func (.func f) #[] vs)
theorem ax {p:Nat->Bool}:∀{cs:List V},V.anyBs p cs=false -> ∀c∈cs,c.anyB p=false:=by
 intro cs;induction cs with
 |nil=>intro _ c b;cases b
 |cons v vs d=>
  intro h c b;rw[V.anyBs,Bool.or_eq_false_iff]at h;rcases List.mem_cons.1 b with rfl|b;·exact h.1
  ·exact d h.2 c b
theorem hM {p:Nat->Bool}:∀{cs:List V},V.anyPs p cs=false -> ∀c∈cs,c.anyP p=false:=by
 intro cs;induction cs with
 |nil=>intro _ c b;cases b
 |cons v vs d=>
  intro h c b;rw[V.anyPs,Bool.or_eq_false_iff]at h;rcases List.mem_cons.1 b with rfl|b;·exact h.1
  ·exact d h.2 c b
theorem aA {α:Type}{l:List α}{i:Nat}{a:α}(h:l[i]?=some a):a∈l:=List.mem_of_getElem? h
theorem VR.mono' {Γ Γ':Ctx}{w w':World}{p r:Nat->Bool}(hU:Γ'.U->Γ.U)(F:∀k,Γ.S k->Γ'.S k)(hF:∀k,Γ.S k->Γ.Z k->Γ'.Z k)(E:∀k,Γ.S k -> ∀o,w'.cell? ⟨k,o,none⟩=w.cell? ⟨k,o,none⟩)
  (K:∀b,p b=false->(Γ'.has b↔Γ.has b)/\(Γ.has b->Γ'.blk b=Γ.blk b/\Γ'.off b=Γ.off b/\Γ'.cap b=Γ.cap b/\Γ'.sz b=Γ.sz b/\Γ'.ln b=Γ.ln b/\(∀m,Γ.N b m->Γ'.N b m) /\ ∀o,w'.cell? ⟨Γ.blk b,o,none⟩=w.cell? ⟨Γ.blk b,o,none⟩))
  (hd:∀d,r d=false->(Γ.lb d->Γ'.lb d)/\Γ'.box d=Γ.box d) {v:V} {x:Value} (h:VR Γ w v x) (D:v.anyB p=false) (Y:v.anyP r=false):VR Γ' w' v x:=by
 have J:∀q k,Γ.Sq q k->Γ'.Sq q k:=by
  intro q k y;cases q with
  |any=>exact F k y
  |flat=>exact⟨F k y.1,hF k y.1 y.2⟩
  |clean=>exact⟨F k y.1,hF k y.1 y.2⟩
 have H:∀q k,Γ.Sq q k -> ∀o,w'.cell? ⟨k,o,none⟩=w.cell? ⟨k,o,none⟩:=by
  intro q k y;cases q with
  |any=>exact E k y
  |flat=>exact E k y.1
  |clean=>exact E k y.1
 induction h with
 |rd v x h=>exact .rd _ _ (h.mono F E)
 |ownNil b s q h=>exact .ownNil b s q (λh'=>h ((K b D).1.1 h'))
 |own b s q xs h hs z l R O =>obtain⟨C,e⟩:=K b D;obtain⟨t,u,I,M,Q,L,B⟩:=e h;have:=VR.own (Γ:=Γ') (w:=w') b s q xs (C.2 h) (by rw[M];exact hs) (by rw[I,Q];exact z) (by rw[t,u];exact l.mono (J q) (H q) (λj _ _=>B j)) R (by rw[t,u];exact O.mono hU L F E (λj _ _=>B j));rwa[t,u,I]at this
 |view0 b s q a G h0 =>obtain⟨C,e⟩:=K b D;exact .view0 b s q a G (h0.to C (λh=>⟨(e h).1,(e h).2.1,(e h).2.2.1,(e h).2.2.2.1⟩))
 |view b s q xs o G h hx z W l R O =>obtain⟨C,e⟩:=K b D;obtain⟨t,u,I,M,Q,L,B⟩:=e h;have:=VR.view (Γ:=Γ') (w:=w') b s q xs o G (C.2 h) hx z (by rw[u,I,M];exact W) (by rw[t];exact l.mono (J q) (H q) (λj _ _=>B j)) R (by rw[t];exact O.mono hU L F E (λj _ _=>B j));rwa[t]at this
 |ptr d n h =>obtain⟨t,u⟩:=hd d Y;have:=VR.ptr (Γ:=Γ') (w:=w') d n (t h);rwa[u]at this
 |eptr b s q xs i n h hs z hi l R O =>obtain⟨C,e⟩:=K b D;obtain⟨t,u,I,M,Q,L,B⟩:=e h;have:=VR.eptr (Γ:=Γ') (w:=w') b s q xs i n (C.2 h) (by rw[M];exact hs) (by rw[I,Q];exact z) hi (by rw[t,u];exact l.mono (J q) (H q) (λj _ _=>B j)) R (by rw[t,u];exact O.mono hU L F E (λj _ _=>B j));rwa[t,u]at this
 |vptr b x o n g h hg l =>obtain⟨C,e⟩:=K b D;obtain⟨t,u,I,M,Q,L,B⟩:=e h;have:=VR.vptr (Γ:=Γ') (w:=w') b x o n g (C.2 h) (by rw[t];exact λj hj=>(B _).trans (hg j hj)) (λj c aa=>(l j c aa).mono F E);rwa[t]at this
 |agg cs vs z _ X=>exact .agg cs vs z (λi c v A T=>X i c v A T (ax D c (aA A)) (hM Y c (aA A)))
 |tup cs vs z _ X=>exact .tup cs vs z (λi c v A T=>X i c v A T (ax D c (aA A)) (hM Y c (aA A)))
 |clo f cs vs z _ X=>exact .clo f cs vs z (λi c v A T=>X i c v A T (ax D c (aA A)) (hM Y c (aA A)))
theorem VR.mono {Γ Γ':Ctx}{w w':World}{p r:Nat->Bool}(g:Γ'.U->Γ.U)(j:∀k,Γ.S k->Γ'.S k)(l:∀k,Γ.Z k->Γ'.Z k)(f:∀k,Γ.S k -> ∀o,w'.cell? ⟨k,o,none⟩=w.cell? ⟨k,o,none⟩)
  (n:∀b,p b=false->(Γ'.has b↔Γ.has b)/\(Γ.has b->Γ'.blk b=Γ.blk b/\Γ'.off b=Γ.off b/\Γ'.cap b=Γ.cap b/\Γ'.sz b=Γ.sz b/\Γ'.ln b=Γ.ln b/\(∀m,Γ.N b m->Γ'.N b m) /\ ∀o,w'.cell? ⟨Γ.blk b,o,none⟩=w.cell? ⟨Γ.blk b,o,none⟩))
  (i:∀d,r d=false->(Γ.lb d->Γ'.lb d)/\Γ'.box d=Γ.box d) {v:V} {x:Value} (h:VR Γ w v x) (q:v.anyB p=false) (e:v.anyP r=false):VR Γ' w' v x:=
 VR.mono' g j (λk _ h=>l k h) f n i h q e
def ck (w:World):Prop:=lh w/\nk<=w.heap.size
structure Good (Γ:Ctx) (w:World):Prop where
  os:w.os=Γ.w0.os
  tape:w.tape=Γ.w0.tape
  output:w.output=Γ.w0.output
  size:Γ.w0.heap.size<=w.heap.size
  old:∀k,k<Γ.w0.heap.size -> ¬Γ.F k->w.heap[k]?=Γ.w0.heap[k]?
  new:∀k,Γ.w0.heap.size<=k->Γ.F k
  slt:∀k,Γ.S k->k<w.heap.size
  base:∀b,Γ.has b->Γ.F (Γ.blk b)/\Γ.blk b<w.heap.size/\Γ.cap b<=maxLen /\ ∃cur e,w.heap[Γ.blk b]?=some (.cells cur e (0,0))/\Γ.off b+Γ.cap b*Γ.sz b<=cur.size
  baseInj:∀b b',Γ.has b->Γ.has b'->Γ.blk b=Γ.blk b'->b=b'
  box:∀d,Γ.lb d->Γ.F (Γ.box d) /\ ¬Γ.S (Γ.box d)/\Γ.box d<w.heap.size
  boxInj:∀d d',Γ.lb d->Γ.lb d'->Γ.box d=Γ.box d'->d=d'
  baseBox:∀b d,Γ.has b->Γ.lb d->Γ.blk b≠Γ.box d
  sr:∀k,Γ.S k->Γ.R k\/Γ.F k
  gl:ck Γ.w0 /\ ∀k,Γ.F k->nk<=k
  bz:∀b,Γ.has b->Γ.Z (Γ.blk b)
  zf:∀k,Γ.Z k->(Γ.F k\/Γ.Y k)/\k<w.heap.size /\ ∃cur e,w.heap[k]?=some (.cells cur e (0,0))
  ns:∀b,Γ.has b -> ∀m,Γ.N b m->Γ.S m/\Γ.Z m
  h9:¬Γ.has 999
structure Sim (Γ:Ctx) (st:St) (a:Act) (w:World):Prop where
  good:Good Γ w
  dz:a.defers=[]
  len:a.tmps.size=st.t.length
  tm:∀(i:Nat) (v:V),st.t[i]?=some v -> ∃x,a.tmps[i]?=some x/\VR Γ w v x
  bx:∀(d:Nat) (v:V),st.h[d]?=some (some v)->Γ.lb d /\ ∃cur e,w.heap[Γ.box d]?=some (.cells cur e (0,0))/\v.cells.length=cur.size /\ ∀(j:Nat) (c:V),v.cells[j]?=some c -> ∃x,cur[j]?=some x/\VR Γ w c x
  nds:∀b,Γ.has b->st.dead b=false -> ¬Γ.S (Γ.blk b)
  du:st.dup=false->Γ.U
  nd:Γ.U -> ∀b b',Γ.has b->Γ.has b'->st.dead b=false->st.dead b'=false->b≠b' -> ∀m,Γ.N b m->Γ.N b' m->False
  nt:st.t.length=Γ.nt
def Same (Γ Γ':Ctx):Prop:=Γ'.w0=Γ.w0/\Γ'.F=Γ.F/\Γ'.R=Γ.R/\Γ'.Y=Γ.Y/\Γ'.nt=Γ.nt /\ ∀d,Γ.nt<=d->Γ'.box d=Γ.box d
def Sims (Γ:Ctx)(st:St)(a:Act)(w:World):Prop:=∃Γ',Same Γ Γ'/\Sim Γ' st a w
theorem Same.rfl' {Γ:Ctx}:Same Γ Γ:=⟨rfl,rfl,rfl,rfl,rfl,λ_ _=>rfl⟩
theorem Same.trans {Γ Γ' e:Ctx}(h:Same Γ Γ')(b:Same Γ' e):Same Γ e:=⟨b.1.trans h.1,b.2.1.trans h.2.1,b.2.2.1.trans h.2.2.1,b.2.2.2.1.trans h.2.2.2.1,b.2.2.2.2.1.trans h.2.2.2.2.1,λd f=>(b.2.2.2.2.2 d (by rw[h.2.2.2.2.1];exact f)).trans (h.2.2.2.2.2 d f)⟩
theorem Sims.of {Γ Γ':Ctx}{st:St}{a:Act}{w:World}(h:Same Γ Γ')(b:Sims Γ' st a w):Sims Γ st a w:=(let⟨Γ'',h1,h2⟩:=b;⟨Γ'',h.trans h1,h2⟩)
theorem Good.glob {Γ:Ctx}{w:World}(g:Good Γ w):ck w:=
 ⟨li _ _ g.gl.1.1 (λk b=>g.old k (Nat.lt_of_lt_of_le b g.gl.1.2) (λh=>absurd (g.gl.2 k h) (Nat.not_le.2 b))),Nat.le_trans g.gl.1.2 g.size⟩
theorem cell?_of_heap {w w':World}{k:Nat}(h:w'.heap[k]?=w.heap[k]?)(o:Nat):w'.cell? ⟨k,o,none⟩=w.cell? ⟨k,o,none⟩:=by simp[World.cell?,h]
end Go.Am
end
section
namespace Go.Am
open Go Go.RowKit
def mw (v:V)(x:Value):Prop:=∀(w:World) (S:Nat->Prop),Rd w S v x
def tV (c:V)(v:Value):Prop:=
 match c with
 |.bool b=>v = .bool b
 |.int k n=>v = .int k n
 |.str s=>∃y:ByteArray,v = .string y/\y.data.toList=s
 |_=>True
structure AgreeT (P:Program) (c:Cfg) (t:Nat) (i:TyInfo) (ti:TypeInfo):Prop where
  info:P.info? t=some ti
  size:ti.size=i.size
  bytes:ti.bytes=i.bytes
  zero:∃z,ti.zero=some z/\mw i.zero z/\z.cells.toList.length=i.zero.cells.length/\(∀u∈z.cells.toList,u.oneCell'=true)/\(∀(j:Nat) (c:V),i.zero.cells[j]?=some c -> ∃u,z.cells[j]?=some u/\mw c u)
  zsz:i.zero.cells.length=i.size
  bool:i.d = .bool->P.underlying t=some .bool
  int:∀k,i.d = .int k->P.underlying t=some (.int k)
  str:i.d = .str->P.underlying t=some .string
  slice:∀e,i.d = .slice e->P.underlying t=some (.slice e)
  struct:∀fs,i.d = .struct fs -> ∃fields,P.underlying t=some (.struct fields)/\fields.toList.map (λf=>(f.offset,f.type))=fs /\ ∀f∈fields.toList,∃tj,P.info? f.type=some tj
  array:∀n e,i.d = .array n e->P.underlying t=some (.array n e)
  cmp:i.cmp=true->P.eqGuardType P.depth t=false /\ ∀(w:World) (xs ys:Array Value) (cs ds:List V) (r:Bool),cs.length=xs.size->ds.length=ys.size->aX i.zero.cells cs=true->aX i.zero.cells ds=true ->
    (∀(j:Nat) (c:V) (v:Value),cs[j]?=some c->xs[j]?=some v->tV c v)->(∀(j:Nat) (c:V) (v:Value),ds[j]?=some c->ys[j]?=some v->tV c v) ->
    bS cs ds=some r->(Op.equalIn 10000 t (.agg xs) (.agg ys)).run P w = .ok r w
  agg:i.d.isAgg=false -> ∃d,P.underlying t=some d/\(∀fs,d ≠ .struct fs)/\(∀n e,d ≠ .array n e)
def ay (P:Program)(c:Cfg):Prop:=∀t i,c.ty t=some i -> ∃b,AgreeT P c t i b
section
variable {P:Program}{c:Cfg}{Γ:Ctx}{st:St}{a:Act}{w:World}
theorem VR.bool_inv {b:Bool}{x:Value}(h:VR Γ w (.bool b) x):x = .bool b:=by
 cases h with
 |rd _ _ h=>cases h;rfl
theorem VR.int_inv {k:IntKind}{n:Int}{x:Value}(h:VR Γ w (.int k n) x):x = .int k n:=by
 cases h with
 |rd _ _ h=>cases h;rfl
theorem VR.str_inv {s:List UInt8}{x:Value}(h:VR Γ w (.str s) x):∃y:ByteArray,x = .string y/\y.data.toList=s:=by
 cases h with
 |rd _ _ h=>cases h with
  |str _ y h=>exact⟨y,rfl,h⟩
theorem VR.nil_inv {x:Value}(h:VR Γ w .nil x):x = .slice none 0 0:=by
 cases h with
 |rd _ _ h=>cases h;rfl
theorem VR.agg_inv {cs:List V}{x:Value}(h:VR Γ w (.agg cs) x):∃vs:Array Value,x = .agg vs/\cs.length=vs.size /\ ∀(i:Nat) (c:V) (v:Value),cs[i]?=some c->vs[i]?=some v->VR Γ w c v:=by
 cases h with
 |rd _ _ h=>cases h with
  |agg _ vs d b=>exact⟨vs,rfl,d,λi c v e f=>.rd _ _ (b i c v e f)⟩
 |agg _ vs d b=>exact⟨vs,rfl,d,b⟩
theorem VR.tup_inv {cs:List V}{x:Value}(h:VR Γ w (.tup cs) x):∃vs:Array Value,x = .tuple vs/\cs.length=vs.size /\ ∀(i:Nat) (c:V) (v:Value),cs[i]?=some c->vs[i]?=some v->VR Γ w c v:=by
 cases h with
 |rd _ _ h=>cases h with
  |tup _ vs d b=>exact⟨vs,rfl,d,λi c v e f=>.rd _ _ (b i c v e f)⟩
 |tup _ vs d b=>exact⟨vs,rfl,d,b⟩
theorem VR.clo_inv {f:Nat}{cs:List V}{x:Value}(h:VR Γ w (.clo f cs) x):∃vs:Array Value,x = .func (.func f) #[] vs/\cs.length=vs.size /\ ∀(i:Nat) (c:V) (v:Value),cs[i]?=some c->vs[i]?=some v->VR Γ w c v:=by
 cases h with
 |rd _ _ h=>cases h with
  |clo _ _ vs d b=>exact⟨vs,rfl,d,λi c v e g=>.rd _ _ (b i c v e g)⟩
 |clo _ _ vs d b=>exact⟨vs,rfl,d,b⟩
theorem VR.undef_ (x:Value):VR Γ w .undef x:=.rd _ _ (.undef x)
theorem VR.sl_inv {s:Nat}{f:Bool}{xs:List V}{x:Value}(h:VR Γ w (.sl s f xs) x):Rd w Γ.S (.sl s f xs) x:=by
 cases h with
 |rd _ _ h=>exact h
theorem VR.ptr_inv {d n:Nat}{x:Value}(h:VR Γ w (.ptr d n) x):x = .pointer (some ⟨Γ.box d,n,none⟩)/\Γ.lb d:=by
 cases h with
 |rd _ _ h=>cases h
 |ptr _ _ h=>exact⟨rfl,h⟩
theorem VR.iptr_inv {v:V}{n:Nat}{x:Value}(h:VR Γ w (.iptr v n) x):∃(k o:Nat) (g:Nat->Value),x = .pointer (some ⟨k,o+n,none⟩)/\Γ.S k /\
  (∀j:Nat,j<v.cells.length->w.cell? ⟨k,o+j,none⟩=some (g j))/\(∀(j:Nat) (c:V),v.cells[j]?=some c->Rd w Γ.S c (g j)):=by
 cases h with
 |rd _ _ h=>cases h with
  |iptr _ k o _ g e d b=>exact⟨k,o,g,rfl,e,d,b⟩
theorem VR.vptr_inv {b:Nat}{v:V}{n:Nat}{x:Value}(h:VR Γ w (.vptr b v n) x):∃(o:Nat) (g:Nat->Value),x = .pointer (some ⟨Γ.blk b,o+n,none⟩)/\Γ.has b /\
  (∀j:Nat,j<v.cells.length->w.cell? ⟨Γ.blk b,o+j,none⟩=some (g j))/\(∀(j:Nat) (c:V),v.cells[j]?=some c->Rd w Γ.S c (g j)):=by
 cases h with
 |rd _ _ h=>cases h
 |vptr _ _ o _ g d f e=>exact⟨o,g,rfl,d,f,e⟩
theorem VR.eptr_inv {b s:Nat}{q:Q}{xs:List V}{i n:Nat}{x:Value}(h:VR Γ w (.eptr b s q xs i n) x):x = .pointer (some ⟨Γ.blk b,Γ.off b+i*s+n,none⟩) /\
  Γ.has b/\s=Γ.sz b/\(xs.length<=Γ.cap b/\xs.length=Γ.ln b)/\i<xs.length/\Rows w (Γ.Sq q) s xs (Γ.blk b) (Γ.off b)/\flatOk q xs:=by
 cases h with
 |rd _ _ h=>cases h
 |eptr _ _ _ _ _ _ d hs g j e f _=>exact⟨rfl,d,hs,g,j,e,f⟩
theorem VR.own_inv {b s:Nat}{q:Q}{xs:List V}{x:Value}(h:VR Γ w (.own b s q xs) x):(x = .slice none 0 0/\xs=[] /\ ¬Γ.has b) \/
  (x = .slice (some ⟨Γ.blk b,Γ.off b,none⟩) xs.length (Γ.cap b)/\Γ.has b/\s=Γ.sz b/\(xs.length<=Γ.cap b/\xs.length=Γ.ln b)/\Rows w (Γ.Sq q) s xs (Γ.blk b) (Γ.off b)/\flatOk q xs):=by
 cases h with
 |rd _ _ h=>cases h
 |ownNil _ _ _ d=>exact .inl ⟨rfl,rfl,d⟩
 |own _ _ _ _ d hs g e f _=>exact .inr ⟨rfl,d,hs,g,e,f⟩
theorem VR.view_inv {b s:Nat}{q:Q}{xs:List V}{x:Value}(h:VR Γ w (.view b s q xs) x):(∃a d,x = .slice a 0 d/\xs=[]) \/
  (∃o d,x = .slice (some ⟨Γ.blk b,o,none⟩) xs.length d/\Γ.has b/\0<xs.length/\xs.length<=d/\(o+d*s<=Γ.off b+Γ.cap b*Γ.sz b/\d<=Γ.cap b)/\Rows w (Γ.Sq q) s xs (Γ.blk b) o/\flatOk q xs):=by
 cases h with
 |rd _ _ h=>cases h
 |view0 _ _ _ a d _=>exact .inl ⟨a,d,rfl,rfl⟩
 |view _ _ _ _ o d j g i e f k _=>exact .inr ⟨o,d,rfl,j,g,i,e,f,k⟩
theorem VR.view0_of {b s:Nat}{q:Q}{a:Option Addr}{d:Nat}(h:VR Γ w (.view b s q []) (.slice a 0 d)):V0 Γ b s a d:=by
 generalize f:Value.slice a 0 d=x at h;cases h with
 |rd _ _ h=>cases h
 |view0 _ _ _ a d g=>injection f with e j i;subst e;subst i;exact g
 |view _ _ _ _ o d k e=>exact absurd e (Nat.lt_irrefl 0)
theorem xo {q:Q}{b s k o:Nat}:Γ.Uq w q b s [] k o:=λ_ _=>
 ⟨λ_ _=>undef,λ_ _ _=>False,λi j e=>absurd e (Nat.not_lt_zero _),λi x j c d=>by simp at d,λ_ _ _ _ _ h=>h.elim,λ_ _ _ h=>h.elim⟩
theorem VR.own_uq {b s:Nat}{q:Q}{xs:List V}{x:Value}(h:VR Γ w (.own b s q xs) x):Γ.Uq w q b s xs (Γ.blk b) (Γ.off b):=by
 cases h with
 |rd _ _ h=>cases h
 |ownNil _ _ _ d=>exact xo
 |own _ _ _ _ d hs i f g e=>exact e
theorem VR.view_uq {b s:Nat}{q:Q}{xs:List V}{k o n d:Nat}(h:VR Γ w (.view b s q xs) (.slice (some ⟨k,o,none⟩) n d)):Γ.Uq w q b s xs k o:=by
 cases h with
 |rd _ _ h=>cases h
 |view0 _ _ _ a d _=>exact xo
 |view _ _ _ _ o d l i j e g m f=>exact f
theorem VR.eptr_uq {b s:Nat}{q:Q}{xs:List V}{i n:Nat}{x:Value}(h:VR Γ w (.eptr b s q xs i n) x):Γ.Uq w q b s xs (Γ.blk b) (Γ.off b):=by
 cases h with
 |rd _ _ h=>cases h
 |eptr _ _ _ _ _ _ e hs j k f g d=>exact d
theorem E0 (v:Value):VR Γ w (Ez v) v:=by
 cases v with
 |bool b=>exact .rd _ _ (.bool b)
 |int k n=>exact .rd _ _ (.int k n)
 |string s=>exact .rd _ _ (.str _ s rfl)
 |slice o l d=>
  cases o with
  |some o=>exact .undef_ _
  |none=>
   cases l with
   |succ l=>exact .undef_ _
   |zero=>
    cases d with
    |succ d=>exact .undef_ _
    |zero=>exact .rd _ _ .nil
 |_=>exact .undef_ _
theorem Sim.ev (hs:Sim Γ st a w)(x:Operand):VR Γ w (ev st.t x) (a.eval x):=by
 cases x with
 |tmp i=>
  simp only[Am.ev,Act.eval];cases h:st.t[i]? with
  |none=>simp only[List.getD,h];exact .undef_ _
  |some v =>obtain⟨y,b,d⟩:=hs.tm i v h;simp only[List.getD,h,Array.getD_eq_getD_getElem?,b];exact d
 |const v=>exact E0 v
 |global g=>exact .undef_ _
 |func f=>exact .clo f [] #[] rfl (by simp)
theorem Sim.put (hs:Sim Γ st a w){d:Nat}{v:V}{x:Value}(g:VR Γ w v x):Sim Γ { st with t:=st.t.set d v } (a.put (some d) x) w:=by
 refine⟨hs.good,hs.dz,by simp[Act.put,hs.len],λi u b=>?_,hs.bx,hs.nds,hs.du,hs.nd,by simp[hs.nt]⟩;simp only[Act.put]at b ⊢;rw[List.getElem?_set]at b;split at b
 ·rename_i e;subst e;split at b;·rename_i f;injection b with b;subst b;exact⟨x,by rw[Array.getElem?_setIfInBounds];simp[hs.len,f],g⟩
  ·cases b
 ·rename_i e;obtain⟨y,j,h⟩:=hs.tm i u b;exact⟨y,by rw[Array.getElem?_setIfInBounds];simp[e,j],h⟩
theorem VR.cellLen {v:V}{x:Value}(h:VR Γ w v x)(d:v.isDef=true):v.cells.length=x.cells.size:=by
 cases h with
 |rd _ _ h=>cases h with
  |undef=>cases d
  |agg _ _ b=>exact b
  |_=>rfl
 |agg _ _ b=>exact b
 |_=>rfl
theorem VR.cells {v:V}{x:Value}(h:VR Γ w v x)(f:v.cells.length=x.cells.size):∀(j:Nat) (c:V),v.cells[j]?=some c -> ∃y,x.cells[j]?=some y/\VR Γ w c y:=by
 intro j c b;cases v with
 |agg cs =>obtain⟨vs,rfl,i,d⟩:=h.agg_inv;simp only[V.cells]at b;have g:j<cs.length:=(bW b).1;refine⟨vs[j]'(by omega),by simp[Value.cells,Array.getElem?_eq_getElem (show j<vs.size by omega)],d j c _ b (Array.getElem?_eq_getElem (by omega))⟩
 |undef=>
  obtain rfl:j=0:=by
   cases j with
   |zero=>rfl
   |succ j=>simp[V.cells]at b
  simp only[V.cells,List.getElem?_cons_zero,aK]at b;subst b;exact⟨x.cells[0]'(by rw[<-f];simp[V.cells]),Array.getElem?_eq_getElem _,.undef_ _⟩
 |_=>
  obtain rfl:j=0:=by
   cases j with
   |zero=>rfl
   |succ j=>simp[V.cells]at b
  simp only[V.cells,List.getElem?_cons_zero,aK]at b;subst b;have e:x.cells = #[x]:=by
   cases h with
   |rd _ _ h=>cases h<;>rfl
   |_=>rfl
  exact⟨x,by rw[e];rfl,h⟩
end
end Go.Am
end
