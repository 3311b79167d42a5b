/-
  The operations that write nothing: what the abstract machine reckons is what the model's operation gives.
-/
import Derived.Test.YthcnbncpgloonaaGreatuAmCore
import Derived.Below
import Derived.Laws.Cells
import Derived.Laws.CopyRow
import Derived.Laws.Entries
import Derived.Laws.StructEq
section
set_option linter.unusedVariables false
set_option linter.unusedSimpArgs false
namespace Go.Am
open Go
variable {P:Program}{c:Cfg}{ext:Nat→List V→Option V}
theorem j1a (body:St→Option (Ex × St))(hd:St→St):∀ (k:Nat) (st:St) (r:Ex × St),g0n body hd k st=some r→g0n body hd (k+1) st=some r:=by
 intro k
 induction k with
 | zero=>intro st r h; simp [g0n] at h
 | succ k ih=>
  intro st r h
  rw [g0n] at h ⊢
  cases hb:body (hd st) with
  | none=>rw [hb] at h; simp at h
  | some x=>
   obtain ⟨e,s⟩:=x
   rw [hb] at h
   cases e with
   | normal=>exact ih _ _ h
   | exit i=>exact h
   | ret=>exact h
theorem z0q {body:St→Option (Ex × St)}{hd:St→St}{k m:Nat}{st:St}{r:Ex × St}(hkm:k≤m)(h:g0n body hd k st=some r):g0n body hd m st=some r:=by
  induction m with
  | zero=>obtain rfl:k=0:=by omega
          exact h
  | succ m ih=>
    by_cases e:k=m+1
    · subst e; exact h
    · exact j1a _ _ _ _ _ (ih (by omega))
open Classical in
noncomputable def b0z:w0j:=λ body hd st=>if h:∃ (r:Ex × St) (k:Nat),g0n body hd k st=some r then some h.choose else none
theorem j0s {body:St→Option (Ex × St)}{hd:St→St}{st:St}{r:Ex × St}{k:Nat}(h:g0n body hd k st=some r):b0z body hd st=some r:=by
 have hex:∃ (r:Ex × St) (k:Nat),g0n body hd k st=some r:=⟨r,k,h⟩
 unfold b0z
 rw [dif_pos hex]
 obtain ⟨m,hm⟩:=hex.choose_spec
 have h1:=z0q (Nat.le_max_left k m) h
 have h2:=z0q (Nat.le_max_right k m) hm
 rw [h1] at h2
 injection h2 with h2
 rw [← h2]
theorem g0s {body:St→Option (Ex × St)}{hd:St→St}{st:St}{r:Ex × St}(h:b0z body hd st=some r):∃ k,g0n body hd k st=some r:=by
 unfold b0z at h
 by_cases hex:∃ (r:Ex × St) (k:Nat),g0n body hd k st=some r
 ·rw [dif_pos hex] at h
  obtain ⟨m,hm⟩:=hex.choose_spec
  injection h with h
  rw [h] at hm
  exact ⟨m,hm⟩
 ·rw [dif_neg hex] at h; cases h
theorem x0g (body:St→Option (Ex × St))(hd:St→St)(st:St):b0z body hd st=match body (hd st) with
  | some (.normal,s)=>b0z body hd s
  | r=>r:=by
 cases hb:body (hd st) with
 | none=>
  simp only
  cases hl:b0z body hd st with
  | none=>rfl
  | some r=>
   obtain ⟨k,hk⟩:=g0s hl
   cases k with
   | zero=>simp [g0n] at hk
   | succ k=>rw [g0n,hb] at hk; cases hk
 | some x=>
  obtain ⟨e,s⟩:=x
  cases e with
  | normal=>
   simp only
   cases hl:b0z body hd s with
   | some r=>
    obtain ⟨k,hk⟩:=g0s hl
    exact j0s (k:=k+1) (by rw [g0n,hb]; exact hk)
   | none=>
    cases hl':b0z body hd st with
    | none=>rfl
    | some r=>
     obtain ⟨k,hk⟩:=g0s hl'
     cases k with
     | zero=>simp [g0n] at hk
     | succ k=>
      rw [g0n,hb] at hk
      rw [j0s hk] at hl
      cases hl
  | exit i=>exact j0s (k:=1) (by rw [g0n,hb])
  | ret=>exact j0s (k:=1) (by rw [g0n,hb])
def Le (a b:Nat→List V→Option V):Prop:=∀ f args r,a f args=some r→b f args=some r
def LeL (A B:w0j):Prop:=∀ (f g:St→Option (Ex × St)) (hd:St→St) (st:St) (r:Ex × St),(∀ s r,f s=some r→g s=some r)→A f hd st=some r→B g hd st=some r
theorem d1a {a b:Nat→List V→Option V}(h:Le a b){ρ:Operand→V}{η:Nat→Option V}{d:Nat}{op:Op}{r:Out}(hr:a0d c a ρ η d op=some r):a0d c b ρ η d op=some r:=by
 cases op with
 | call cl=>
  obtain ⟨callee,args,ts⟩:=cl
  cases callee with
  | value f=>
   simp only [a0d] at hr ⊢
   cases hf:ρ f with
   | clo g cap=>
    rw [hf] at hr
    simp only at hr ⊢
    cases hs:c0t η (args.toList.map ρ++cap) with
    | none=>rw [hs] at hr; cases hr
    | some vs=>
     rw [hs] at hr
     simp only at hr ⊢
     cases hd:a g (e0t (c.pz g) vs) with
     | none=>rw [hd] at hr; cases hr
     | some x=>rw [hd] at hr; rw [h _ _ _ hd]; exact hr
   | _=>rw [hf] at hr; cases hr
  | invoke f m=>exact hr
  | builtin bi=>cases bi <;> exact hr
 | unOp u _ _=>cases u <;> exact hr
 | makeFunc fn _ _=>cases fn <;> exact hr
 | slice _ _ _ _ mx=>cases mx <;> exact hr
 | _=>exact hr
theorem v0m {a b:Nat→List V→Option V}(h:Le a b){st:St}{o:Oper}{r:St}(hr:step c a st o=some r):step c b st o=some r:=by
 unfold step at hr ⊢
 split
 ·rename_i he; rw [if_pos he] at hr; exact hr
 ·rename_i he
  rw [if_neg he] at hr
  cases hd:o.dst with
  | none=>rw [hd] at hr; cases hr
  | some d=>
   rw [hd] at hr
   simp only at hr ⊢
   cases hv:a0d c a (ev st.t) (λ b=>st.h.getD b none) d o.op with
   | none=>rw [hv] at hr; cases hr
   | some x=>rw [d1a h hv]; rw [hv] at hr; exact hr
theorem x0x {a b:Nat→List V→Option V}(h:Le a b){ops:Array Oper}:∀ (l:List Oper) (st r:St),b0x c a ops l st=some r→b0x c b ops l st=some r:=by
 intro l
 induction l with
 | nil=>intro st r hr; exact hr
 | cons o l ih=>
  intro st r hr
  rw [b0x] at hr ⊢
  cases hw:wanted ops st.t o with
  | none=>rw [hw] at hr; cases hr
  | some t=>
   rw [hw] at hr
   cases t with
   | true=>
    simp only at hr ⊢
    cases hs:step c a st o with
    | none=>rw [hs] at hr; cases hr
    | some s=>rw [hs] at hr; rw [v0m h hs]; exact ih _ _ hr
   | false=>
    simp only at hr ⊢
    cases hd:o.dst with
    | none=>rw [hd] at hr; exact ih _ _ hr
    | some d=>rw [hd] at hr; exact ih _ _ hr
theorem x0d {a b:Nat→List V→Option V}(h:Le a b){st:St}{d:Option Nat}{f:Nat}{s:Io}{az:List Operand}{r:St}(hr:c0c c a st d f s az=some r):c0c c b st d f s az=some r:=by
 unfold c0c at hr ⊢
 cases d with
 | none=>cases hr
 | some d=>
  simp only at hr ⊢
  cases hp:m0w c st f s (az.map (ev st.t)) with
  | none=>rw [hp] at hr; cases hr
  | some p=>
   rw [hp] at hr
   simp only at hr ⊢
   cases hd:a f (h0e :: p.args) with
   | none=>rw [hd] at hr; cases hr
   | some x=>rw [h _ _ _ hd]; rw [hd] at hr; exact hr
theorem c1z {a b:Nat→List V→Option V}(h:Le a b){st:St}{o:Oper}{r:St}(hr:m0o c a st o=some r):m0o c b st o=some r:=by
 unfold m0o at hr ⊢
 cases hw:v1j c o.op with
 | none=>
  rw [hw] at hr
  simp only at hr ⊢
  cases hi:i0h c o.op with
  | none=>rw [hi] at hr; exact v0m h hr
  | some z=>rw [hi] at hr; exact x0d h hr
 | some z=>rw [hw] at hr; exact hr
theorem t0n {a b:Nat→List V→Option V}(h:Le a b){ops:Array Oper}:∀ (l:List Oper) (st r:St),b0n c a ops l st=some r→b0n c b ops l st=some r:=by
 intro l
 induction l with
 | nil=>intro st r hr; exact hr
 | cons o l ih=>
  intro st r hr
  rw [b0n] at hr ⊢
  cases hw:wanted ops st.t o with
  | none=>rw [hw] at hr; cases hr
  | some t=>
   rw [hw] at hr
   cases t with
   | true=>
    simp only at hr ⊢
    cases hs:m0o c a st o with
    | none=>rw [hs] at hr; cases hr
    | some s=>rw [hs] at hr; rw [c1z h hs]; exact ih _ _ hr
   | false=>
    simp only at hr ⊢
    cases hd:o.dst with
    | none=>rw [hd] at hr; exact ih _ _ hr
    | some d=>rw [hd] at hr; exact ih _ _ hr
theorem c1y {a b:Nat→List V→Option V}(h:Le a b){ops:Array Oper}{st:St}{o:Oper}{r:St}(hr:stepB c a ops st o=some r):stepB c b ops st o=some r:=by
 unfold stepB at hr ⊢
 cases hi:i0h c o.op with
 | none=>rw [hi] at hr; exact v0m h hr
 | some z=>
  obtain ⟨f,s,az⟩:=z
  rw [hi] at hr
  simp only at hr ⊢
  cases hq:c0c c a (st.head ([],[])) o.dst f s az with
  | none=>rw [hq] at hr; cases hr
  | some s'=>rw [x0d h hq]; rw [hq] at hr; exact hr
theorem t0m {a b:Nat→List V→Option V}(h:Le a b){ops:Array Oper}:∀ (l:List Oper) (st r:St),b0g c a ops l st=some r→b0g c b ops l st=some r:=by
 intro l
 induction l with
 | nil=>intro st r hr; exact hr
 | cons o l ih=>
  intro st r hr
  rw [b0g] at hr ⊢
  cases hw:wanted ops st.t o with
  | none=>rw [hw] at hr; cases hr
  | some t=>
   rw [hw] at hr
   cases t with
   | true=>
    simp only at hr ⊢
    cases hs:stepB c a ops st o with
    | none=>rw [hs] at hr; cases hr
    | some s=>rw [hs] at hr; rw [c1y h hs]; exact ih _ _ hr
   | false=>
    simp only at hr ⊢
    cases hd:o.dst with
    | none=>rw [hd] at hr; exact ih _ _ hr
    | some d=>rw [hd] at hr; exact ih _ _ hr
theorem i0s {a b:Nat→List V→Option V}(h:Le a b){A B:w0j}(hL:LeL A B){n:s1l}:∀ (code:Code) (st:St) (r:Ex × St),d0p c a A n code st=some r→d0p c b B n code st=some r:=by
 intro code
 induction code with
 | skip=>intro st r hr; exact hr
 | region id ops draw=>
  intro st r hr
  rw [d0p] at hr ⊢
  have key:∀ st r,(b0x c a ops ops.toList st).map (λ s=>(Ex.normal,s))=some r→(b0x c b ops ops.toList st).map (λ s=>(Ex.normal,s))=some r:=by
   intro st r hr
   cases hq:b0x c a ops ops.toList st with
   | none=>rw [hq] at hr; cases hr
   | some s=>rw [x0x h _ _ _ hq]; rw [hq] at hr; exact hr
  have keyW:∀ st r,(b0n c a ops ops.toList st).map (λ s=>(Ex.normal,s))=some r→(b0n c b ops ops.toList st).map (λ s=>(Ex.normal,s))=some r:=by
   intro st r hr
   cases hq:b0n c a ops ops.toList st with
   | none=>rw [hq] at hr; cases hr
   | some s=>rw [t0n h _ _ _ hq]; rw [hq] at hr; exact hr
  have keyB:∀ st r,(b0g c a ops ops.toList st).map (λ s=>(Ex.normal,s))=some r→(b0g c b ops ops.toList st).map (λ s=>(Ex.normal,s))=some r:=by
   intro st r hr
   cases hq:b0g c a ops ops.toList st with
   | none=>rw [hq] at hr; cases hr
   | some s=>rw [t0m h _ _ _ hq]; rw [hq] at hr; exact hr
  split
  ·rename_i hd
   rw [if_pos hd] at hr
   cases hio:z0t c.io ops with
   | true=>
    rw [hio] at hr
    simp only at hr ⊢
    split
    ·rename_i hc; rw [if_pos hc] at hr; exact keyB _ _ hr
    ·rename_i hc; rw [if_neg hc] at hr; cases hr
   | false=>
    rw [hio] at hr
    simp only at hr ⊢
    split
    ·rename_i hc; rw [if_pos hc] at hr; exact key _ _ hr
    ·rename_i hc; rw [if_neg hc] at hr; cases hr
  ·rename_i hd; rw [if_neg hd] at hr; exact keyW _ _ hr
 | seq x y ihx ihy=>
  intro st r hr
  rw [d0p] at hr ⊢
  cases hx:d0p c a A n x st with
  | none=>rw [hx] at hr; cases hr
  | some z=>
   rw [hx] at hr
   rw [ihx _ _ hx]
   obtain ⟨e,s⟩:=z
   cases e with
   | normal=>exact ihy _ _ hr
   | exit i=>exact hr
   | ret=>exact hr
 | cond x a' b' iha ihb=>
  intro st r hr
  rw [d0p] at hr ⊢
  cases hx:ev st.t x with
  | bool t=>rw [hx] at hr; cases t <;> simp only at hr ⊢ <;> first | exact iha _ _ hr | exact ihb _ _ hr
  | _=>rw [hx] at hr; cases hr
 | block id b' ih=>
  intro st r hr
  rw [d0p] at hr ⊢
  cases hx:d0p c a A n b' st with
  | none=>rw [hx] at hr; cases hr
  | some z=>rw [hx] at hr; rw [ih _ _ hx]; exact hr
 | loop b' ih=>
  intro st r hr
  rw [d0p] at hr ⊢
  cases hx:A (d0p c a A n b') (λ s=>s.head ((n (a0g b')).1,(n (a0g b')).2.1)) st with
  | none=>rw [hx] at hr; cases hr
  | some z=>
   rw [hL _ _ _ _ _ (λ s r hs=>ih s r hs) hx]
   rw [hx] at hr
   exact hr
 | exit id=>intro st r hr; exact hr
 | ret=>intro st r hr; exact hr
 | _=>intro st r hr; cases hr
theorem f0q {k m:Nat}(h:k≤m):LeL (λ b hd st=>g0n b hd k st) (λ b hd st=>g0n b hd m st):=by
 intro f g hd st r hfg hr
 refine z0q h ?_
 clear h
 induction k generalizing st with
 | zero=>simp [g0n] at hr
 | succ k ih=>
  simp only [g0n] at hr ⊢
  cases hb:f (hd st) with
  | none=>rw [hb] at hr; cases hr
  | some x=>
   rw [hfg _ _ hb]
   rw [hb] at hr
   obtain ⟨e,s⟩:=x
   cases e with
   | normal=>exact ih s hr
   | exit i=>exact hr
   | ret=>exact hr
theorem n1w {a b:Nat→List V→Option V}(h:Le a b){A B:w0j}(hL:LeL A B){f:Nat}{fn:Func}{args:List V}{r:V}(hr:o0j c a A f fn args=some r):o0j c b B f fn args=some r:=by
 unfold o0j at hr ⊢
 cases hb:fn.body with
 | none=>rw [hb] at hr; cases hr
 | some code=>
  rw [hb] at hr
  simp only at hr ⊢
  split at hr
  ·cases hr
  rename_i hdr
  rw [if_neg hdr]
  cases hx:d0p c a A (c.fg f) code ⟨args++List.replicate (fn.ntmps - args.length) .undef,List.replicate fn.ntmps none,λ _=>false,false⟩ with
  | none=>rw [hx] at hr; cases hr
  | some z=>rw [i0s h hL _ _ _ hx]; rw [hx] at hr; exact hr
theorem d1q {a b:Nat→List V→Option V}(h:Le a b){A B:w0j}(hL:LeL A B){f:Nat}{s:Io}{fn:Func}{args:List V}{r:V}(hr:g0a c a A f s fn args=some r):g0a c b B f s fn args=some r:=by
 unfold g0a at hr ⊢
 cases hb:fn.body with
 | none=>rw [hb] at hr; cases hr
 | some code=>
  rw [hb] at hr
  simp only at hr ⊢
  split at hr
  ·cases hr
  rename_i hdr
  rw [if_neg hdr]
  split at hr
  ·rename_i hnt
   rw [if_pos hnt]
   cases hx:d0p c a A (c.fg (1000000+f)) code (n1b s args) with
   | none=>rw [hx] at hr; cases hr
   | some z=>rw [i0s h hL _ _ _ hx]; rw [hx] at hr; exact hr
  ·cases hr
theorem h1r:∀ k,Le (j0y P c ext k) (j0y P c ext (k+1)):=by
 intro k
 induction k with
 | zero=>intro f args r h; cases h
 | succ k ih=>
  intro f args r h
  rw [j0y] at h ⊢
  cases hia:g0r args with
  | some as=>
   rw [hia] at h
   simp only at h ⊢
   cases hc:c.io f with
   | none=>rw [hc] at h; cases h
   | some s=>
    rw [hc] at h
    cases hf:P.funcs[f]? with
    | none=>rw [hf] at h; cases h
    | some fn=>
     rw [hf] at h
     simp only at h ⊢
     split at h
     ·cases h
     ·rename_i hn
      rw [if_neg hn]
      exact d1q ih (f0q (by omega)) h
  | none=>
   rw [hia] at h
   simp only at h ⊢
   cases he:ext f args with
   | some x=>rw [he] at h; exact h
   | none=>
    rw [he] at h
    simp only at h ⊢
    cases hf:P.funcs[f]? with
    | none=>rw [hf] at h; cases h
    | some fn=>
     rw [hf] at h
     simp only at h ⊢
     split at h
     ·cases h
     ·rename_i hn
      rw [if_neg hn]
      exact n1w ih (f0q (by omega)) h
theorem e0g {k m:Nat}(h:k≤m):Le (j0y P c ext k) (j0y P c ext m):=by
  induction m with
  | zero=>obtain rfl:k=0:=by omega
          intro f args r h; exact h
  | succ m ih=>
    by_cases e:k=m+1
    · subst e; intro f args r h; exact h
    · intro f args r hr; exact h1r m f args r (ih (by omega) f args r hr)
open Classical in
noncomputable def den (P:Program)(c:Cfg)(ext:Nat→List V→Option V)(f:Nat)(args:List V):Option V:=
 if h:∃ (r:V) (k:Nat),j0y P c ext k f args=some r then some h.choose else none
theorem h1t {f:Nat}{args:List V}{r:V}{k:Nat}(h:j0y P c ext k f args=some r):den P c ext f args=some r:=by
 have hex:∃ (r:V) (k:Nat),j0y P c ext k f args=some r:=⟨r,k,h⟩
 unfold den
 rw [dif_pos hex]
 obtain ⟨m,hm⟩:=hex.choose_spec
 have h1:=e0g (Nat.le_max_left k m) _ _ _ h
 have h2:=e0g (Nat.le_max_right k m) _ _ _ hm
 rw [h1] at h2
 injection h2 with h2
 rw [← h2]
theorem u0i {f:Nat}{args:List V}{r:V}(h:den P c ext f args=some r):∃ k,j0y P c ext k f args=some r:=by
 unfold den at h
 by_cases hex:∃ (r:V) (k:Nat),j0y P c ext k f args=some r
 ·rw [dif_pos hex] at h
  obtain ⟨m,hm⟩:=hex.choose_spec
  injection h with h
  rw [h] at hm
  exact ⟨m,hm⟩
 ·rw [dif_neg hex] at h; cases h
theorem l1e {ρ:Operand→V}{η:Nat→Option V}{d:Nat}{op:Op}{r:Out}(hr:a0d c (den P c ext) ρ η d op=some r):∃ k,a0d c (j0y P c ext k) ρ η d op=some r:=by
 cases op with
 | call cl=>
  obtain ⟨callee,args,ts⟩:=cl
  cases callee with
  | value f=>
   simp only [a0d] at hr ⊢
   cases hf:ρ f with
   | clo g cap=>
    rw [hf] at hr
    simp only at hr ⊢
    cases hs:c0t η (args.toList.map ρ++cap) with
    | none=>rw [hs] at hr; cases hr
    | some vs=>
     rw [hs] at hr
     simp only at hr ⊢
     cases hd:den P c ext g (e0t (c.pz g) vs) with
     | none=>rw [hd] at hr; cases hr
     | some x=>
      rw [hd] at hr
      obtain ⟨k,hk⟩:=u0i hd
      exact ⟨k,by rw [hk]; exact hr⟩
   | _=>rw [hf] at hr; cases hr
  | invoke f m=>exact ⟨0,hr⟩
  | builtin bi=>cases bi <;> exact ⟨0,hr⟩
 | unOp u _ _=>cases u <;> exact ⟨0,hr⟩
 | makeFunc fn _ _=>cases fn <;> exact ⟨0,hr⟩
 | slice _ _ _ _ mx=>cases mx <;> exact ⟨0,hr⟩
 | _=>exact ⟨0,hr⟩
theorem v0n {st:St}{o:Oper}{r:St}(hr:step c (den P c ext) st o=some r):∃ k,step c (j0y P c ext k) st o=some r:=by
 unfold step at hr ⊢
 split
 ·rename_i he; rw [if_pos he] at hr; exact ⟨0,hr⟩
 ·rename_i he
  rw [if_neg he] at hr
  cases hd:o.dst with
  | none=>rw [hd] at hr; cases hr
  | some d=>
   rw [hd] at hr
   simp only at hr ⊢
   cases hv:a0d c (den P c ext) (ev st.t) (λ b=>st.h.getD b none) d o.op with
   | none=>rw [hv] at hr; cases hr
   | some x=>
    obtain ⟨k,hk⟩:=l1e hv
    exact ⟨k,by rw [hk]; rw [hv] at hr; exact hr⟩
theorem f1e {ops:Array Oper}:∀ (l:List Oper) (st r:St),b0x c (den P c ext) ops l st=some r → ∃ k,b0x c (j0y P c ext k) ops l st=some r:=by
 intro l
 induction l with
 | nil=>intro st r hr; exact ⟨0,hr⟩
 | cons o l ih=>
  intro st r hr
  simp only [b0x] at hr ⊢
  cases hw:wanted ops st.t o with
  | none=>rw [hw] at hr; cases hr
  | some t=>
   rw [hw] at hr
   cases t with
   | true=>
    simp only at hr ⊢
    cases hs:step c (den P c ext) st o with
    | none=>rw [hs] at hr; cases hr
    | some s=>
     rw [hs] at hr
     obtain ⟨k,hk⟩:=v0n hs
     obtain ⟨m,hm⟩:=ih _ _ hr
     refine ⟨max k m,?_⟩
     rw [v0m (e0g (Nat.le_max_left k m)) hk]
     exact x0x (e0g (Nat.le_max_right k m)) _ _ _ hm
   | false=>
    simp only at hr ⊢
    cases hd:o.dst with
    | none=>rw [hd] at hr; exact ih _ _ hr
    | some d=>rw [hd] at hr; exact ih _ _ hr
theorem s0w {st:St}{d:Option Nat}{f:Nat}{s:Io}{az:List Operand}{r:St}(hr:c0c c (den P c ext) st d f s az=some r):∃ k,c0c c (j0y P c ext k) st d f s az=some r:=by
 unfold c0c at hr ⊢
 cases d with
 | none=>cases hr
 | some d=>
  simp only at hr ⊢
  cases hp:m0w c st f s (az.map (ev st.t)) with
  | none=>rw [hp] at hr; cases hr
  | some p=>
   rw [hp] at hr
   simp only at hr ⊢
   cases hd:den P c ext f (h0e :: p.args) with
   | none=>rw [hd] at hr; cases hr
   | some x=>
    rw [hd] at hr
    obtain ⟨k,hk⟩:=u0i hd
    exact ⟨k,by rw [hk]; exact hr⟩
theorem k1x {st:St}{o:Oper}{r:St}(hr:m0o c (den P c ext) st o=some r):∃ k,m0o c (j0y P c ext k) st o=some r:=by
 unfold m0o at hr ⊢
 cases hw:v1j c o.op with
 | none=>
  rw [hw] at hr
  simp only at hr ⊢
  cases hi:i0h c o.op with
  | none=>rw [hi] at hr; exact v0n hr
  | some z=>rw [hi] at hr; exact s0w hr
 | some z=>rw [hw] at hr; exact ⟨0,hr⟩
theorem a1n {ops:Array Oper}:∀ (l:List Oper) (st r:St),b0n c (den P c ext) ops l st=some r → ∃ k,b0n c (j0y P c ext k) ops l st=some r:=by
 intro l
 induction l with
 | nil=>intro st r hr; exact ⟨0,hr⟩
 | cons o l ih=>
  intro st r hr
  simp only [b0n] at hr ⊢
  cases hw:wanted ops st.t o with
  | none=>rw [hw] at hr; cases hr
  | some t=>
   rw [hw] at hr
   cases t with
   | true=>
    simp only at hr ⊢
    cases hs:m0o c (den P c ext) st o with
    | none=>rw [hs] at hr; cases hr
    | some s=>
     rw [hs] at hr
     obtain ⟨k,hk⟩:=k1x hs
     obtain ⟨m,hm⟩:=ih _ _ hr
     refine ⟨max k m,?_⟩
     rw [c1z (e0g (Nat.le_max_left k m)) hk]
     exact t0n (e0g (Nat.le_max_right k m)) _ _ _ hm
   | false=>
    simp only at hr ⊢
    cases hd:o.dst with
    | none=>rw [hd] at hr; exact ih _ _ hr
    | some d=>rw [hd] at hr; exact ih _ _ hr
theorem k1v {ops:Array Oper}{st:St}{o:Oper}{r:St}(hr:stepB c (den P c ext) ops st o=some r):∃ k,stepB c (j0y P c ext k) ops st o=some r:=by
 unfold stepB at hr ⊢
 cases hi:i0h c o.op with
 | none=>rw [hi] at hr; exact v0n hr
 | some z=>
  obtain ⟨f,s,az⟩:=z
  rw [hi] at hr
  simp only at hr ⊢
  cases hq:c0c c (den P c ext) (st.head ([],[])) o.dst f s az with
  | none=>rw [hq] at hr; cases hr
  | some s'=>
   obtain ⟨k,hk⟩:=s0w hq
   exact ⟨k,by rw [hk]; rw [hq] at hr; exact hr⟩
theorem a1m {ops:Array Oper}:∀ (l:List Oper) (st r:St),b0g c (den P c ext) ops l st=some r → ∃ k,b0g c (j0y P c ext k) ops l st=some r:=by
 intro l
 induction l with
 | nil=>intro st r hr; exact ⟨0,hr⟩
 | cons o l ih=>
  intro st r hr
  simp only [b0g] at hr ⊢
  cases hw:wanted ops st.t o with
  | none=>rw [hw] at hr; cases hr
  | some t=>
   rw [hw] at hr
   cases t with
   | true=>
    simp only at hr ⊢
    cases hs:stepB c (den P c ext) ops st o with
    | none=>rw [hs] at hr; cases hr
    | some s=>
     rw [hs] at hr
     obtain ⟨k,hk⟩:=k1v hs
     obtain ⟨m,hm⟩:=ih _ _ hr
     refine ⟨max k m,?_⟩
     rw [c1y (e0g (Nat.le_max_left k m)) hk]
     exact t0m (e0g (Nat.le_max_right k m)) _ _ _ hm
   | false=>
    simp only at hr ⊢
    cases hd:o.dst with
    | none=>rw [hd] at hr; exact ih _ _ hr
    | some d=>rw [hd] at hr; exact ih _ _ hr
theorem b1z {n:s1l}:∀ (code:Code) (st:St) (r:Ex × St),d0p c (den P c ext) b0z n code st=some r → ∃ k,d0p c (j0y P c ext k) (λ b hd st=>g0n b hd k st) n code st=some r:=by
 intro code
 induction code with
 | skip=>intro st r hr; exact ⟨0,hr⟩
 | region id ops draw=>
  intro st r hr
  simp only [d0p] at hr ⊢
  have key:∀ st r,(b0x c (den P c ext) ops ops.toList st).map (λ s=>(Ex.normal,s))=some r → ∃ k,(b0x c (j0y P c ext k) ops ops.toList st).map (λ s=>(Ex.normal,s))=some r:=by
   intro st r hr
   cases hq:b0x c (den P c ext) ops ops.toList st with
   | none=>rw [hq] at hr; cases hr
   | some s=>
    obtain ⟨k,hk⟩:=f1e _ _ _ hq
    exact ⟨k,by rw [hk]; rw [hq] at hr; exact hr⟩
  have keyW:∀ st r,(b0n c (den P c ext) ops ops.toList st).map (λ s=>(Ex.normal,s))=some r → ∃ k,(b0n c (j0y P c ext k) ops ops.toList st).map (λ s=>(Ex.normal,s))=some r:=by
   intro st r hr
   cases hq:b0n c (den P c ext) ops ops.toList st with
   | none=>rw [hq] at hr; cases hr
   | some s=>
    obtain ⟨k,hk⟩:=a1n _ _ _ hq
    exact ⟨k,by rw [hk]; rw [hq] at hr; exact hr⟩
  have keyB:∀ st r,(b0g c (den P c ext) ops ops.toList st).map (λ s=>(Ex.normal,s))=some r → ∃ k,(b0g c (j0y P c ext k) ops ops.toList st).map (λ s=>(Ex.normal,s))=some r:=by
   intro st r hr
   cases hq:b0g c (den P c ext) ops ops.toList st with
   | none=>rw [hq] at hr; cases hr
   | some s=>
    obtain ⟨k,hk⟩:=a1m _ _ _ hq
    exact ⟨k,by rw [hk]; rw [hq] at hr; exact hr⟩
  split
  ·rename_i hd
   rw [if_pos hd] at hr
   cases hio:z0t c.io ops with
   | true=>
    rw [hio] at hr
    simp only at hr ⊢
    split
    ·rename_i hc; rw [if_pos hc] at hr; exact keyB _ _ hr
    ·rename_i hc; rw [if_neg hc] at hr; cases hr
   | false=>
    rw [hio] at hr
    simp only at hr ⊢
    split
    ·rename_i hc; rw [if_pos hc] at hr; exact key _ _ hr
    ·rename_i hc; rw [if_neg hc] at hr; cases hr
  ·rename_i hd; rw [if_neg hd] at hr; exact keyW _ _ hr
 | seq x y ihx ihy=>
  intro st r hr
  simp only [d0p] at hr ⊢
  cases hx:d0p c (den P c ext) b0z n x st with
  | none=>rw [hx] at hr; cases hr
  | some z=>
   rw [hx] at hr
   obtain ⟨k,hk⟩:=ihx _ _ hx
   obtain ⟨e,s⟩:=z
   cases e with
   | normal=>
    obtain ⟨m,hm⟩:=ihy _ _ hr
    refine ⟨max k m,?_⟩
    rw [i0s (e0g (Nat.le_max_left k m)) (f0q (Nat.le_max_left k m)) _ _ _ hk]
    exact i0s (e0g (Nat.le_max_right k m)) (f0q (Nat.le_max_right k m)) _ _ _ hm
   | exit i=>exact ⟨k,by rw [hk]; exact hr⟩
   | ret=>exact ⟨k,by rw [hk]; exact hr⟩
 | cond x a' b' iha ihb=>
  intro st r hr
  simp only [d0p] at hr ⊢
  cases hx:ev st.t x with
  | bool t=>rw [hx] at hr; cases t <;> simp only at hr ⊢ <;> first | exact iha _ _ hr | exact ihb _ _ hr
  | _=>rw [hx] at hr; cases hr
 | block id b' ih=>
  intro st r hr
  simp only [d0p] at hr ⊢
  cases hx:d0p c (den P c ext) b0z n b' st with
  | none=>rw [hx] at hr; cases hr
  | some z=>
   rw [hx] at hr
   obtain ⟨k,hk⟩:=ih _ _ hx
   exact ⟨k,by rw [hk]; exact hr⟩
 | loop b' ih=>
  intro st r hr
  simp only [d0p] at hr ⊢
  cases hx:b0z (d0p c (den P c ext) b0z n b') (λ s=>s.head ((n (a0g b')).1,(n (a0g b')).2.1)) st with
  | none=>rw [hx] at hr; cases hr
  | some zz=>
  rw [hx] at hr
  obtain ⟨j,hj⟩:=g0s hx
  clear hx
  suffices hsuf:∃ k,g0n (d0p c (j0y P c ext k) (λ b hd st=>g0n b hd k st) n b') (λ s=>s.head ((n (a0g b')).1,(n (a0g b')).2.1)) k st=some zz by
   obtain ⟨k,hk⟩:=hsuf
   exact ⟨k,by rw [hk]; exact hr⟩
  clear hr
  induction j generalizing st with
  | zero=>simp [g0n] at hj
  | succ j ihj=>
   rw [g0n] at hj
   cases hb:d0p c (den P c ext) b0z n b' (st.head ((n (a0g b')).1,(n (a0g b')).2.1)) with
   | none=>rw [hb] at hj; cases hj
   | some z=>
    rw [hb] at hj
    obtain ⟨k,hk⟩:=ih _ _ hb
    obtain ⟨e,s⟩:=z
    cases e with
    | normal=>
     obtain ⟨m,hm⟩:=ihj s hj
     refine ⟨max k m+1,?_⟩
     rw [g0n,i0s (e0g (by omega)) (f0q (by omega)) _ _ _ hk]
     exact f0q (Nat.le_max_right k m) _ _ _ _ _ (λ s r hs=>i0s (e0g (by omega)) (f0q (by omega)) _ _ _ hs) hm
    | exit i=>exact ⟨k+1,by rw [g0n,i0s (e0g (by omega)) (f0q (by omega)) _ _ _ hk]; exact hj⟩
    | ret=>exact ⟨k+1,by rw [g0n,i0s (e0g (by omega)) (f0q (by omega)) _ _ _ hk]; exact hj⟩
 | exit id=>intro st r hr; exact ⟨0,hr⟩
 | ret=>intro st r hr; exact ⟨0,hr⟩
 | _=>intro st r hr; cases hr
theorem t1a {f:Nat}{fn:Func}{args:List V}{r:V}(hia:g0r args=none)(he:ext f args=none)(hf:P.funcs[f]? = some fn)(hnm:(fn.name == "runtime.NumGoroutine")=false)(h:o0j c (den P c ext) b0z f fn args=some r):den P c ext f args=some r:=by
 unfold o0j at h
 cases hb:fn.body with
 | none=>rw [hb] at h; cases h
 | some code=>
  rw [hb] at h
  simp only at h
  split at h
  ·cases h
  rename_i hdr
  cases hx:d0p c (den P c ext) b0z (c.fg f) code ⟨args++List.replicate (fn.ntmps - args.length) .undef,List.replicate fn.ntmps none,λ _=>false,false⟩ with
  | none=>rw [hx] at h; cases h
  | some z=>
   obtain ⟨k,hk⟩:=b1z _ _ _ hx
   refine h1t (k:=k+1) ?_
   rw [j0y,hia,he]
   simp only [hf,hnm]
   rw [if_neg (by simp)]
   unfold o0j
   rw [hb]
   simp only
   rw [if_neg hdr]
   rw [hk]
   rw [hx] at h
   exact h
theorem s1z {f:Nat}{args:List V}{r:V}(hia:g0r args=none)(he:ext f args=some r):den P c ext f args=some r:=h1t (k:=1) (by rw [j0y,hia,he])
theorem h1u {f:Nat}{s:Io}{fn:Func}{args:List V}{r:V}(hs:c.io f=some s)(hf:P.funcs[f]? = some fn)(hnm:(fn.name == "runtime.NumGoroutine")=false)(h:g0a c (den P c ext) b0z f s fn args=some r):den P c ext f (h0e :: args)=some r:=by
 unfold g0a at h
 cases hb:fn.body with
 | none=>rw [hb] at h; cases h
 | some code=>
  rw [hb] at h
  simp only at h
  split at h
  ·cases h
  rename_i hdr
  split at h
  ·rename_i hnt
   cases hx:d0p c (den P c ext) b0z (c.fg (1000000+f)) code (n1b s args) with
   | none=>rw [hx] at h; cases h
   | some z=>
    obtain ⟨k,hk⟩:=b1z _ _ _ hx
    refine h1t (k:=k+1) ?_
    have hia:g0r (h0e :: args)=some args:=rfl
    rw [j0y,hia]
    simp only [hs,hf,hnm]
    rw [if_neg (by simp)]
    unfold g0a
    rw [hb]
    simp only
    rw [if_neg hdr,if_pos hnt]
    rw [hk]
    rw [hx] at h
    exact h
  ·cases h
theorem b1t (st:St):st.calm.dup=false:=by
 unfold St.calm
 split
 ·rfl
 ·assumption
theorem j0r (st:St)(fs:List Nat × List Nat):(st.head fs).dup=false:=by
 have ho:∀ (ns:List Nat) (i:Nat) (s:St),(St.owns ns i s).dup=s.dup:=by
  intro ns
  induction ns with
  | nil=>intro i s; rfl
  | cons n ns ih=>
   intro i s
   rw [St.owns,ih]
   split
   ·unfold St.own1 St.take1
    repeat' split
    all_goals rfl
   ·rfl
 unfold St.head St.head0
 simp only
 split
 ·exact b1t st
 ·exact (ho _ _ _).trans (b1t st)
theorem h0d (st:St)(fs:List Nat × List Nat):(st.head fs).dead=λ _=>false:=by
 unfold St.head St.head0
 simp only
 split <;> rfl
end Go.Am
end
section
namespace Go.Am
open Go
def i1n:Nat:=0
def i1m (_:World):Prop:=True
theorem s0r (w w':World)(h:i1m w)(_:∀ k,k < i1n→w'.heap[k]? = w.heap[k]?):i1m w':=h
end Go.Am
end
section
set_option linter.unusedVariables false
set_option linter.unusedSimpArgs false
namespace Go.Am
open Go Go.RowKit
def r0o:V→Prop
 | .bool _=>True
 | .int _ _=>True
 | .str _=>True
 | .nil=>True
 | _=>False
inductive Rd (w:World) (S:Nat→Prop):V→Value→Prop
  | undef (x:Value):Rd w S .undef x
  | bool (b:Bool):Rd w S (.bool b) (.bool b)
  | int (k:IntKind) (n:Int):Rd w S (.int k n) (.int k n)
  | str (s:List UInt8) (x:ByteArray) (h:x.data.toList=s):Rd w S (.str s) (.string x)
  | nil:Rd w S .nil (.slice none 0 0)
  | empty (s:Nat) (f:Bool) (a:Option Addr) (cap:Nat):Rd w S (.sl s f []) (.slice a 0 cap)
  | sl (s:Nat) (f:Bool) (xs:List V) (k o cap:Nat) (g:Nat→Nat→Value) (hl:0 < xs.length) (hcap:xs.length≤cap) (hS:S k)
      (hsz:∀ x∈xs,x.cells.length=s) (hf:f=true → ∀ x∈xs,∀ c∈x.cells,r0o c)
      (hg:∀ i j:Nat,i < xs.length→j < s→w.cell? ⟨k,o+i * s+j,none⟩=some (g i j)∧(g i j).oneCell' = true)
      (hr:∀ (i:Nat) (x:V) (j:Nat) (c:V),xs[i]? = some x→x.cells[j]? = some c→Rd w S c (g i j)):Rd w S (.sl s f xs) (.slice (some ⟨k,o,none⟩) xs.length cap)
  | iptr (x:V) (k o n:Nat) (g:Nat→Value) (hS:S k) (hg:∀ j:Nat,j < x.cells.length→w.cell? ⟨k,o+j,none⟩=some (g j))
      (hr:∀ (j:Nat) (c:V),x.cells[j]? = some c→Rd w S c (g j)):Rd w S (.iptr x n) (.pointer (some ⟨k,o+n,none⟩))
  | agg (cs:List V) (vs:Array Value) (hl:cs.length=vs.size) (hr:∀ (i:Nat) (c:V) (v:Value),cs[i]? = some c→vs[i]? = some v→Rd w S c v):Rd w S (.agg cs) (.agg vs)
  | tup (cs:List V) (vs:Array Value) (hl:cs.length=vs.size) (hr:∀ (i:Nat) (c:V) (v:Value),cs[i]? = some c→vs[i]? = some v→Rd w S c v):Rd w S (.tup cs) (.tuple vs)
  | clo (f:Nat) (cs:List V) (vs:Array Value) (hl:cs.length=vs.size) (hr:∀ (i:Nat) (c:V) (v:Value),cs[i]? = some c→vs[i]? = some v→Rd w S c v):Rd w S (.clo f cs) (.func (.func f) #[] vs)
theorem Rd.mono {w w':World}{S S':Nat→Prop}(hS:∀ k,S k→S' k)(hc:∀ k,S k → ∀ o,w'.cell? ⟨k,o,none⟩=w.cell? ⟨k,o,none⟩){v:V}{x:Value}(h:Rd w S v x):Rd w' S' v x:=by
 induction h with
 | undef x=>exact .undef x
 | bool b=>exact .bool b
 | int k n=>exact .int k n
 | str s x h=>exact .str s x h
 | nil=>exact .nil
 | empty s f a cap=>exact .empty s f a cap
 | sl s f xs k o cap g hl hcap hk hsz hf hg hr ih=>exact .sl s f xs k o cap g hl hcap (hS k hk) hsz hf (λ i j hi hj=>⟨(hc k hk _).trans (hg i j hi hj).1,(hg i j hi hj).2⟩) ih
 | iptr x k o n g hk hg hr ih=>exact .iptr x k o n g (hS k hk) (λ j hj=>(hc k hk _).trans (hg j hj)) ih
 | agg cs vs hl hr ih=>exact .agg cs vs hl ih
 | tup cs vs hl hr ih=>exact .tup cs vs hl ih
 | clo f cs vs hl hr ih=>exact .clo f cs vs hl ih
def Rows (w:World)(S:Nat→Prop)(s:Nat)(xs:List V)(k o:Nat):Prop:=
 (∀ x∈xs,x.cells.length=s) ∧ ∃ g:Nat→Nat→Value,(∀ i j:Nat,i < xs.length→j < s→w.cell? ⟨k,o+i * s+j,none⟩=some (g i j)∧(g i j).oneCell' = true) ∧
 ∀ (i:Nat) (x:V) (j:Nat) (c:V),xs[i]? = some x→x.cells[j]? = some c→Rd w S c (g i j)
theorem Rows.mono {w w':World}{S S':Nat→Prop}(hS:∀ k,S k→S' k)(hc:∀ k,S k → ∀ o,w'.cell? ⟨k,o,none⟩=w.cell? ⟨k,o,none⟩){s:Nat}{xs:List V}{k o:Nat}
  (hk:∀ j,o≤j→j < o+xs.length * s→w'.cell? ⟨k,j,none⟩=w.cell? ⟨k,j,none⟩) (h:Rows w S s xs k o):Rows w' S' s xs k o:=by
 obtain ⟨h1,g,h2,h3⟩:=h
 refine ⟨h1,g,λ i j hi hj=>⟨?_,(h2 i j hi hj).2⟩,λ i x j c hx hcj=>(h3 i x j c hx hcj).mono hS hc⟩
 rw [hk _ (by omega) ?_]
 ·exact (h2 i j hi hj).1
 ·have:i * s+s≤xs.length * s:=by
   have:=Nat.mul_le_mul_right s (show i+1≤xs.length from hi)
   rw [Nat.add_mul,Nat.one_mul] at this
   exact this
  omega
inductive Tr (w:World):V→Value→(Nat→Prop)→Prop
  | leaf (v:V) (x:Value) (T:Nat→Prop) (h:r0o v):Tr w v x T
  | empty (s:Nat) (f:Bool) (a:Option Addr) (cap:Nat) (T:Nat→Prop):Tr w (.sl s f []) (.slice a 0 cap) T
  | sl (s:Nat) (f:Bool) (xs:List V) (k o cap:Nat) (g:Nat→Nat→Value) (T:Nat→Nat→Nat→Prop) (T':Nat→Prop) (hl:0 < xs.length)
      (hg:∀ i j:Nat,i < xs.length→j < s→w.cell? ⟨k,o+i * s+j,none⟩=some (g i j)) (hr:∀ (i:Nat) (x:V) (j:Nat) (c:V),xs[i]? = some x→x.cells[j]? = some c→Tr w c (g i j) (T i j))
      (hd:∀ i j i' j' m,T i j m→T i' j' m→i=i' ∧ j=j') (hk:∀ i j,¬ T i j k) (h0:T' k) (hT:∀ i j m,T i j m→T' m):Tr w (.sl s f xs) (.slice (some ⟨k,o,none⟩) xs.length cap) T'
theorem Tr.mono {w w':World}{v:V}{x:Value}{T:Nat→Prop}(h:Tr w v x T)(hc:∀ k,T k → ∀ o,w'.cell? ⟨k,o,none⟩=w.cell? ⟨k,o,none⟩):Tr w' v x T:=by
 induction h with
 | leaf v x T h=>exact .leaf v x T h
 | empty s f a cap T=>exact .empty s f a cap T
 | sl s f xs k o cap g T T' hl hg hr hd hk h0 hT ih=>exact .sl s f xs k o cap g T T' hl (λ i j hi hj=>(hc k h0 _).trans (hg i j hi hj)) (λ i x j c hx hcj=>ih i x j c hx hcj (λ k hk=>hc k (hT i j k hk))) hd hk h0 hT
theorem Tr.weaken {w:World}{v:V}{x:Value}{T T1:Nat→Prop}(h:Tr w v x T)(hT:∀ m,T m→T1 m):Tr w v x T1:=by
 cases h with
 | leaf v x T h=>exact .leaf v x T1 h
 | empty s f a cap T=>exact .empty s f a cap T1
 | sl s f xs k o cap g T T' hl hg hr hd hk h0 hT'=>exact .sl s f xs k o cap g T T1 hl hg hr hd hk (hT k h0) (λ i j m hm=>hT m (hT' i j m hm))
def TrRows (w:World)(N:Nat→Prop)(s:Nat)(xs:List V)(k o:Nat):Prop:=
 ∃ (g:Nat→Nat→Value) (T:Nat→Nat→Nat→Prop),(∀ i j:Nat,i < xs.length→j < s→w.cell? ⟨k,o+i * s+j,none⟩=some (g i j)) ∧
 (∀ (i:Nat) (x:V) (j:Nat) (c:V),xs[i]? = some x→x.cells[j]? = some c→Tr w c (g i j) (T i j))∧(∀ i j i' j' m,T i j m→T i' j' m→i=i' ∧ j=j') ∧ ∀ i j m,T i j m→N m
theorem TrRows.mono {w w':World}{N N':Nat→Prop}{s:Nat}{xs:List V}{k o:Nat}(hN:∀ k,N k→N' k)(hc:∀ k,N k → ∀ o,w'.cell? ⟨k,o,none⟩=w.cell? ⟨k,o,none⟩)
  (hk:∀ j,o≤j→j < o+xs.length * s→w'.cell? ⟨k,j,none⟩=w.cell? ⟨k,j,none⟩) (h:TrRows w N s xs k o):TrRows w' N' s xs k o:=by
 obtain ⟨g,T,h1,h2,h3,h4⟩:=h
 refine ⟨g,T,λ i j hi hj=>?_,λ i x j c hx hcj=>(h2 i x j c hx hcj).mono (λ k hk=>hc k (h4 i j k hk)),h3,λ i j m hm=>hN m (h4 i j m hm)⟩
 rw [hk _ (by omega) ?_]
 ·exact h1 i j hi hj
 ·have:i * s+s≤xs.length * s:=by
   have:=Nat.mul_le_mul_right s (show i+1≤xs.length from hi)
   rw [Nat.add_mul,Nat.one_mul] at this
   exact this
  omega
def flatOk (q:Q)(xs:List V):Prop:=q = .flat → ∀ x∈xs,∀ c∈x.cells,r0o c
structure Ctx where
  w0:World
  F:Nat→Prop
  S:Nat→Prop
  has:Nat→Prop
  blk:Nat→Nat
  off:Nat→Nat
  cap:Nat→Nat
  sz:Nat→Nat
  ln:Nat→Nat
  lb:Nat→Prop
  box:Nat→Nat
  R:Nat→Prop
  Z:Nat→Prop
  N:Nat→Nat→Prop
  U:Prop
  Y:Nat→Prop:=λ _=>False
  nt:Nat:=0
def Ctx.Uq (Γ:Ctx)(w:World)(q:Q)(b s:Nat)(xs:List V)(k o:Nat):Prop:=q = .clean→Γ.U→TrRows w (λ m=>Γ.N b m∧Γ.S m) s xs k o
theorem Ctx.Uq.mono {Γ Γ':Ctx}{w w':World}{q:Q}{b s:Nat}{xs:List V}{k o:Nat}(hU:Γ'.U→Γ.U)(hN:∀ m,Γ.N b m→Γ'.N b m)(hS:∀ m,Γ.S m→Γ'.S m)(hc:∀ k,Γ.S k → ∀ o,w'.cell? ⟨k,o,none⟩=w.cell? ⟨k,o,none⟩)
  (hk:∀ j,o≤j→j < o+xs.length * s→w'.cell? ⟨k,j,none⟩=w.cell? ⟨k,j,none⟩) (h:Γ.Uq w q b s xs k o):Γ'.Uq w' q b s xs k o:=
 λ hq hU'=>(h hq (hU hU')).mono (λ m hm=>⟨hN m hm.1,hS m hm.2⟩) (λ k hk=>hc k hk.2) hk
def Ctx.Sq (Γ:Ctx):Q→Nat→Prop
 | .any=>Γ.S
 | _=>λ k=>Γ.S k∧Γ.Z k
def V0 (Γ:Ctx)(b s:Nat)(a:Option Addr)(cap:Nat):Prop:=(a=none∧cap=0 ∧ ¬ Γ.has b)∨(Γ.has b ∧ ∃ o,a=some ⟨Γ.blk b,o,none⟩∧(o+cap * s≤Γ.off b+Γ.cap b * Γ.sz b∧cap≤Γ.cap b))
theorem V0.to {Γ Γ':Ctx}{b b' s:Nat}{a:Option Addr}{cap:Nat}(h:V0 Γ b s a cap)(h0:Γ'.has b' ↔ Γ.has b)(e:Γ.has b→Γ'.blk b' = Γ.blk b∧Γ'.off b' = Γ.off b∧Γ'.cap b' = Γ.cap b∧Γ'.sz b' = Γ.sz b):V0 Γ' b' s a cap:=by
 rcases h with ⟨h1,h2,h3⟩ | ⟨h1,o,h2,h3⟩
 ·exact .inl ⟨h1,h2,λ h=>h3 (h0.1 h)⟩
 ·obtain ⟨e1,e2,e3,e4⟩:=e h1
  exact .inr ⟨h0.2 h1,o,by rw [e1]; exact h2,by rw [e2,e3,e4]; exact h3⟩
inductive VR (Γ:Ctx) (w:World):V→Value→Prop
  | rd (v:V) (x:Value) (h:Rd w Γ.S v x):VR Γ w v x
  | ownNil (b s:Nat) (q:Q) (hb:Γ.has b→False):VR Γ w (.own b s q []) (.slice none 0 0)
  | own (b s:Nat) (q:Q) (xs:List V) (hb:Γ.has b) (hs:s=Γ.sz b) (hl:xs.length≤Γ.cap b∧xs.length=Γ.ln b) (hr:Rows w (Γ.Sq q) s xs (Γ.blk b) (Γ.off b)) (hq:flatOk q xs) (hu:Γ.Uq w q b s xs (Γ.blk b) (Γ.off b)) :
      VR Γ w (.own b s q xs) (.slice (some ⟨Γ.blk b,Γ.off b,none⟩) xs.length (Γ.cap b))
  | view0 (b s:Nat) (q:Q) (a:Option Addr) (cap:Nat) (h0:V0 Γ b s a cap):VR Γ w (.view b s q []) (.slice a 0 cap)
  | view (b s:Nat) (q:Q) (xs:List V) (o cap:Nat) (hb:Γ.has b) (hx:0 < xs.length) (hl:xs.length≤cap) (hfit:o+cap * s≤Γ.off b+Γ.cap b * Γ.sz b∧cap≤Γ.cap b) (hr:Rows w (Γ.Sq q) s xs (Γ.blk b) o) (hq:flatOk q xs) (hu:Γ.Uq w q b s xs (Γ.blk b) o) :
      VR Γ w (.view b s q xs) (.slice (some ⟨Γ.blk b,o,none⟩) xs.length cap)
  | ptr (d n:Nat) (hd:Γ.lb d):VR Γ w (.ptr d n) (.pointer (some ⟨Γ.box d,n,none⟩))
  | eptr (b s:Nat) (q:Q) (xs:List V) (i n:Nat) (hb:Γ.has b) (hs:s=Γ.sz b) (hl:xs.length≤Γ.cap b∧xs.length=Γ.ln b) (hi:i < xs.length) (hr:Rows w (Γ.Sq q) s xs (Γ.blk b) (Γ.off b)) (hq:flatOk q xs) (hu:Γ.Uq w q b s xs (Γ.blk b) (Γ.off b)) :
      VR Γ w (.eptr b s q xs i n) (.pointer (some ⟨Γ.blk b,Γ.off b+i * s+n,none⟩))
  | vptr (b:Nat) (x:V) (o n:Nat) (g:Nat→Value) (hb:Γ.has b) (hg:∀ j:Nat,j < x.cells.length→w.cell? ⟨Γ.blk b,o+j,none⟩=some (g j)) (hr:∀ (j:Nat) (c:V),x.cells[j]? = some c→Rd w Γ.S c (g j)) :
      VR Γ w (.vptr b x n) (.pointer (some ⟨Γ.blk b,o+n,none⟩))
  | agg (cs:List V) (vs:Array Value) (hl:cs.length=vs.size) (hr:∀ (i:Nat) (c:V) (v:Value),cs[i]? = some c→vs[i]? = some v→VR Γ w c v):VR Γ w (.agg cs) (.agg vs)
  | tup (cs:List V) (vs:Array Value) (hl:cs.length=vs.size) (hr:∀ (i:Nat) (c:V) (v:Value),cs[i]? = some c→vs[i]? = some v→VR Γ w c v):VR Γ w (.tup cs) (.tuple vs)
  | clo (f:Nat) (cs:List V) (vs:Array Value) (hl:cs.length=vs.size) (hr:∀ (i:Nat) (c:V) (v:Value),cs[i]? = some c→vs[i]? = some v→VR Γ w c v):VR Γ w (.clo f cs) (.func (.func f) #[] vs)
theorem a0u {p:Nat→Bool}:∀ {cs:List V},V.anyBs p cs=false → ∀ c∈cs,c.anyB p=false:=by
 intro cs
 induction cs with
 | nil=>intro _ c hc; cases hc
 | cons v vs ih=>
  intro h c hc
  rw [V.anyBs,Bool.or_eq_false_iff] at h
  rcases List.mem_cons.1 hc with rfl | hc
  ·exact h.1
  ·exact ih h.2 c hc
theorem c0o {p:Nat→Bool}:∀ {cs:List V},V.anyPs p cs=false → ∀ c∈cs,c.anyP p=false:=by
 intro cs
 induction cs with
 | nil=>intro _ c hc; cases hc
 | cons v vs ih=>
  intro h c hc
  rw [V.anyPs,Bool.or_eq_false_iff] at h
  rcases List.mem_cons.1 hc with rfl | hc
  ·exact h.1
  ·exact ih h.2 c hc
theorem a0a {α:Type}{l:List α}{i:Nat}{a:α}(h:l[i]? = some a):a∈l:=List.mem_of_getElem? h
theorem VR.mono' {Γ Γ':Ctx}{w w':World}{p r:Nat→Bool}(hU:Γ'.U→Γ.U)(hS:∀ k,Γ.S k→Γ'.S k)(hF:∀ k,Γ.S k→Γ.Z k→Γ'.Z k)(hc:∀ k,Γ.S k → ∀ o,w'.cell? ⟨k,o,none⟩=w.cell? ⟨k,o,none⟩)
  (hb:∀ b,p b=false→(Γ'.has b↔Γ.has b)∧(Γ.has b→Γ'.blk b=Γ.blk b∧Γ'.off b=Γ.off b∧Γ'.cap b=Γ.cap b∧Γ'.sz b=Γ.sz b∧Γ'.ln b=Γ.ln b∧(∀ m,Γ.N b m→Γ'.N b m) ∧ ∀ o,w'.cell? ⟨Γ.blk b,o,none⟩=w.cell? ⟨Γ.blk b,o,none⟩))
  (hd:∀ d,r d=false→(Γ.lb d→Γ'.lb d)∧Γ'.box d=Γ.box d) {v:V} {x:Value} (h:VR Γ w v x) (hp:v.anyB p=false) (hr:v.anyP r=false):VR Γ' w' v x:=by
 have hSq:∀ q k,Γ.Sq q k→Γ'.Sq q k:=by
  intro q k hk
  cases q with
  | any=>exact hS k hk
  | flat=>exact ⟨hS k hk.1,hF k hk.1 hk.2⟩
  | clean=>exact ⟨hS k hk.1,hF k hk.1 hk.2⟩
 have hSc:∀ q k,Γ.Sq q k → ∀ o,w'.cell? ⟨k,o,none⟩=w.cell? ⟨k,o,none⟩:=by
  intro q k hk
  cases q with
  | any=>exact hc k hk
  | flat=>exact hc k hk.1
  | clean=>exact hc k hk.1
 induction h with
 | rd v x h=>exact .rd _ _ (h.mono hS hc)
 | ownNil b s q h=>exact .ownNil b s q (λ h'=>h ((hb b hp).1.1 h'))
 | own b s q xs h hs hl hrow hq hu=>
  obtain ⟨e0,e⟩:=hb b hp
  obtain ⟨e1,e2,e3,e4,e6,e7,e5⟩:=e h
  have:=VR.own (Γ:=Γ') (w:=w') b s q xs (e0.2 h) (by rw [e4]; exact hs) (by rw [e3,e6]; exact hl) (by rw [e1,e2]; exact hrow.mono (hSq q) (hSc q) (λ j _ _=>e5 j)) hq (by rw [e1,e2]; exact hu.mono hU e7 hS hc (λ j _ _=>e5 j))
  rwa [e1,e2,e3] at this
 | view0 b s q a cap h0=>
  obtain ⟨e0,e⟩:=hb b hp
  exact .view0 b s q a cap (h0.to e0 (λ h=>⟨(e h).1,(e h).2.1,(e h).2.2.1,(e h).2.2.2.1⟩))
 | view b s q xs o cap h hx hl hfit hrow hq hu=>
  obtain ⟨e0,e⟩:=hb b hp
  obtain ⟨e1,e2,e3,e4,e6,e7,e5⟩:=e h
  have:=VR.view (Γ:=Γ') (w:=w') b s q xs o cap (e0.2 h) hx hl (by rw [e2,e3,e4]; exact hfit) (by rw [e1]; exact hrow.mono (hSq q) (hSc q) (λ j _ _=>e5 j)) hq (by rw [e1]; exact hu.mono hU e7 hS hc (λ j _ _=>e5 j))
  rwa [e1] at this
 | ptr d n h=>
  obtain ⟨e1,e2⟩:=hd d hr
  have:=VR.ptr (Γ:=Γ') (w:=w') d n (e1 h)
  rwa [e2] at this
 | eptr b s q xs i n h hs hl hi hrow hq hu=>
  obtain ⟨e0,e⟩:=hb b hp
  obtain ⟨e1,e2,e3,e4,e6,e7,e5⟩:=e h
  have:=VR.eptr (Γ:=Γ') (w:=w') b s q xs i n (e0.2 h) (by rw [e4]; exact hs) (by rw [e3,e6]; exact hl) hi (by rw [e1,e2]; exact hrow.mono (hSq q) (hSc q) (λ j _ _=>e5 j)) hq (by rw [e1,e2]; exact hu.mono hU e7 hS hc (λ j _ _=>e5 j))
  rwa [e1,e2] at this
 | vptr b x o n g h hg hrow=>
  obtain ⟨e0,e⟩:=hb b hp
  obtain ⟨e1,e2,e3,e4,e6,e7,e5⟩:=e h
  have:=VR.vptr (Γ:=Γ') (w:=w') b x o n g (e0.2 h) (by rw [e1]; exact λ j hj=>(e5 _).trans (hg j hj)) (λ j c hcj=>(hrow j c hcj).mono hS hc)
  rwa [e1] at this
 | agg cs vs hl _ ih=>exact .agg cs vs hl (λ i c v h1 h2=>ih i c v h1 h2 (a0u hp c (a0a h1)) (c0o hr c (a0a h1)))
 | tup cs vs hl _ ih=>exact .tup cs vs hl (λ i c v h1 h2=>ih i c v h1 h2 (a0u hp c (a0a h1)) (c0o hr c (a0a h1)))
 | clo f cs vs hl _ ih=>exact .clo f cs vs hl (λ i c v h1 h2=>ih i c v h1 h2 (a0u hp c (a0a h1)) (c0o hr c (a0a h1)))
theorem VR.mono {Γ Γ':Ctx}{w w':World}{p r:Nat→Bool}(hU:Γ'.U→Γ.U)(hS:∀ k,Γ.S k→Γ'.S k)(hF:∀ k,Γ.Z k→Γ'.Z k)(hc:∀ k,Γ.S k → ∀ o,w'.cell? ⟨k,o,none⟩=w.cell? ⟨k,o,none⟩)
  (hb:∀ b,p b=false→(Γ'.has b↔Γ.has b)∧(Γ.has b→Γ'.blk b=Γ.blk b∧Γ'.off b=Γ.off b∧Γ'.cap b=Γ.cap b∧Γ'.sz b=Γ.sz b∧Γ'.ln b=Γ.ln b∧(∀ m,Γ.N b m→Γ'.N b m) ∧ ∀ o,w'.cell? ⟨Γ.blk b,o,none⟩=w.cell? ⟨Γ.blk b,o,none⟩))
  (hd:∀ d,r d=false→(Γ.lb d→Γ'.lb d)∧Γ'.box d=Γ.box d) {v:V} {x:Value} (h:VR Γ w v x) (hp:v.anyB p=false) (hr:v.anyP r=false):VR Γ' w' v x:=
 VR.mono' hU hS (λ k _ h=>hF k h) hc hb hd h hp hr
def g0c (w:World):Prop:=i1m w∧i1n≤w.heap.size
structure Good (Γ:Ctx) (w:World):Prop where
  os:w.os=Γ.w0.os
  tape:w.tape=Γ.w0.tape
  output:w.output=Γ.w0.output
  size:Γ.w0.heap.size≤w.heap.size
  old:∀ k,k < Γ.w0.heap.size → ¬ Γ.F k→w.heap[k]? = Γ.w0.heap[k]?
  new:∀ k,Γ.w0.heap.size≤k→Γ.F k
  slt:∀ k,Γ.S k→k < w.heap.size
  base:∀ b,Γ.has b→Γ.F (Γ.blk b)∧Γ.blk b < w.heap.size∧Γ.cap b≤maxLen ∧ ∃ cur e,w.heap[Γ.blk b]? = some (.cells cur e (0,0))∧Γ.off b+Γ.cap b * Γ.sz b≤cur.size
  baseInj:∀ b b',Γ.has b→Γ.has b' → Γ.blk b=Γ.blk b' → b=b'
  box:∀ d,Γ.lb d→Γ.F (Γ.box d) ∧ ¬ Γ.S (Γ.box d)∧Γ.box d < w.heap.size
  boxInj:∀ d d',Γ.lb d→Γ.lb d' → Γ.box d=Γ.box d' → d=d'
  baseBox:∀ b d,Γ.has b→Γ.lb d→Γ.blk b ≠ Γ.box d
  sr:∀ k,Γ.S k→Γ.R k∨Γ.F k
  gl:g0c Γ.w0 ∧ ∀ k,Γ.F k→i1n≤k
  bz:∀ b,Γ.has b→Γ.Z (Γ.blk b)
  zf:∀ k,Γ.Z k→(Γ.F k∨Γ.Y k)∧k < w.heap.size ∧ ∃ cur e,w.heap[k]? = some (.cells cur e (0,0))
  ns:∀ b,Γ.has b → ∀ m,Γ.N b m→Γ.S m∧Γ.Z m
  h9:¬ Γ.has 999
structure Sim (Γ:Ctx) (st:St) (a:Act) (w:World):Prop where
  good:Good Γ w
  dz:a.defers=[]
  len:a.tmps.size=st.t.length
  tm:∀ (i:Nat) (v:V),st.t[i]? = some v → ∃ x,a.tmps[i]? = some x∧VR Γ w v x
  bx:∀ (d:Nat) (v:V),st.h[d]? = some (some v)→Γ.lb d ∧ ∃ cur e,w.heap[Γ.box d]? = some (.cells cur e (0,0))∧v.cells.length=cur.size ∧ ∀ (j:Nat) (c:V),v.cells[j]? = some c → ∃ x,cur[j]? = some x∧VR Γ w c x
  nds:∀ b,Γ.has b→st.dead b=false → ¬ Γ.S (Γ.blk b)
  du:st.dup=false→Γ.U
  nd:Γ.U → ∀ b b',Γ.has b→Γ.has b' → st.dead b=false→st.dead b' = false→b ≠ b' → ∀ m,Γ.N b m→Γ.N b' m→False
  nt:st.t.length=Γ.nt
def Same (Γ Γ':Ctx):Prop:=Γ'.w0=Γ.w0∧Γ'.F=Γ.F∧Γ'.R=Γ.R∧Γ'.Y=Γ.Y∧Γ'.nt=Γ.nt ∧ ∀ d,Γ.nt≤d→Γ'.box d=Γ.box d
def Sims (Γ:Ctx)(st:St)(a:Act)(w:World):Prop:=∃ Γ',Same Γ Γ' ∧ Sim Γ' st a w
theorem Same.rfl' {Γ:Ctx}:Same Γ Γ:=⟨rfl,rfl,rfl,rfl,rfl,λ _ _=>rfl⟩
theorem Same.trans {Γ Γ' Γ'':Ctx}(h:Same Γ Γ')(h':Same Γ' Γ''):Same Γ Γ'':=⟨h'.1.trans h.1,h'.2.1.trans h.2.1,h'.2.2.1.trans h.2.2.1,h'.2.2.2.1.trans h.2.2.2.1,h'.2.2.2.2.1.trans h.2.2.2.2.1,λ d hd=>(h'.2.2.2.2.2 d (by rw [h.2.2.2.2.1]; exact hd)).trans (h.2.2.2.2.2 d hd)⟩
theorem Sims.of {Γ Γ':Ctx}{st:St}{a:Act}{w:World}(h:Same Γ Γ')(h':Sims Γ' st a w):Sims Γ st a w:=(let ⟨Γ'',h1,h2⟩:=h'; ⟨Γ'',h.trans h1,h2⟩)
theorem Good.glob {Γ:Ctx}{w:World}(g:Good Γ w):g0c w:=
 ⟨s0r _ _ g.gl.1.1 (λ k hk=>g.old k (Nat.lt_of_lt_of_le hk g.gl.1.2) (λ h=>absurd (g.gl.2 k h) (Nat.not_le.2 hk))),Nat.le_trans g.gl.1.2 g.size⟩
theorem cell?_of_heap {w w':World}{k:Nat}(h:w'.heap[k]? = w.heap[k]?)(o:Nat):w'.cell? ⟨k,o,none⟩=w.cell? ⟨k,o,none⟩:=by simp [World.cell?,h]
end Go.Am
end
section
set_option linter.unusedVariables false
set_option linter.unusedSimpArgs false
namespace Go.Am
open Go Go.RowKit
def r0w (v:V)(x:Value):Prop:=∀ (w:World) (S:Nat→Prop),Rd w S v x
def n1f (c:V)(v:Value):Prop:=
 match c with
 | .bool b=>v = .bool b
 | .int k n=>v = .int k n
 | .str s=>∃ y:ByteArray,v = .string y∧y.data.toList=s
 | _=>True
structure AgreeT (P:Program) (c:Cfg) (t:Nat) (i:TyInfo) (ti:TypeInfo):Prop where
  info:P.info? t=some ti
  size:ti.size=i.size
  bytes:ti.bytes=i.bytes
  zero:∃ z,ti.zero=some z∧r0w i.zero z∧z.cells.toList.length=i.zero.cells.length∧(∀ u∈z.cells.toList,u.oneCell' = true)∧(∀ (j:Nat) (c:V),i.zero.cells[j]? = some c → ∃ u,z.cells[j]? = some u∧r0w c u)
  zsz:i.zero.cells.length=i.size
  bool:i.d = .bool→P.underlying t=some .bool
  int:∀ k,i.d = .int k→P.underlying t=some (.int k)
  str:i.d = .str→P.underlying t=some .string
  slice:∀ e,i.d = .slice e→P.underlying t=some (.slice e)
  struct:∀ fs,i.d = .struct fs → ∃ fields,P.underlying t=some (.struct fields)∧fields.toList.map (λ f=>(f.offset,f.type))=fs ∧ ∀ f∈fields.toList,∃ tj,P.info? f.type=some tj
  array:∀ n e,i.d = .array n e→P.underlying t=some (.array n e)
  cmp:i.cmp=true→P.eqGuardType P.depth t=false ∧ ∀ (w:World) (xs ys:Array Value) (cs ds:List V) (r:Bool),cs.length=xs.size→ds.length=ys.size→a0j i.zero.cells cs=true→a0j i.zero.cells ds=true →
    (∀ (j:Nat) (c:V) (v:Value),cs[j]? = some c→xs[j]? = some v→n1f c v)→(∀ (j:Nat) (c:V) (v:Value),ds[j]? = some c→ys[j]? = some v→n1f c v) →
    c0r cs ds=some r→(Op.equalIn 10000 t (.agg xs) (.agg ys)).run P w = .ok r w
  agg:i.d.isAgg=false → ∃ d,P.underlying t=some d∧(∀ fs,d ≠ .struct fs)∧(∀ n e,d ≠ .array n e)
def b0l (P:Program)(c:Cfg):Prop:=∀ t i,c.ty t=some i → ∃ ti,AgreeT P c t i ti
section
variable {P:Program}{c:Cfg}{Γ:Ctx}{st:St}{a:Act}{w:World}
theorem VR.bool_inv {b:Bool}{x:Value}(h:VR Γ w (.bool b) x):x = .bool b:=by
 cases h with
 | rd _ _ h=>cases h; rfl
theorem VR.int_inv {k:IntKind}{n:Int}{x:Value}(h:VR Γ w (.int k n) x):x = .int k n:=by
 cases h with
 | rd _ _ h=>cases h; rfl
theorem VR.str_inv {s:List UInt8}{x:Value}(h:VR Γ w (.str s) x):∃ y:ByteArray,x = .string y∧y.data.toList=s:=by
 cases h with
 | rd _ _ h=>cases h with
  | str _ y h=>exact ⟨y,rfl,h⟩
theorem VR.nil_inv {x:Value}(h:VR Γ w .nil x):x = .slice none 0 0:=by
 cases h with
 | rd _ _ h=>cases h; rfl
theorem VR.agg_inv {cs:List V}{x:Value}(h:VR Γ w (.agg cs) x):∃ vs:Array Value,x = .agg vs∧cs.length=vs.size ∧ ∀ (i:Nat) (c:V) (v:Value),cs[i]? = some c→vs[i]? = some v→VR Γ w c v:=by
 cases h with
 | rd _ _ h=>cases h with
  | agg _ vs hl hr=>exact ⟨vs,rfl,hl,λ i c v h1 h2=>.rd _ _ (hr i c v h1 h2)⟩
 | agg _ vs hl hr=>exact ⟨vs,rfl,hl,hr⟩
theorem VR.tup_inv {cs:List V}{x:Value}(h:VR Γ w (.tup cs) x):∃ vs:Array Value,x = .tuple vs∧cs.length=vs.size ∧ ∀ (i:Nat) (c:V) (v:Value),cs[i]? = some c→vs[i]? = some v→VR Γ w c v:=by
 cases h with
 | rd _ _ h=>cases h with
  | tup _ vs hl hr=>exact ⟨vs,rfl,hl,λ i c v h1 h2=>.rd _ _ (hr i c v h1 h2)⟩
 | tup _ vs hl hr=>exact ⟨vs,rfl,hl,hr⟩
theorem VR.clo_inv {f:Nat}{cs:List V}{x:Value}(h:VR Γ w (.clo f cs) x):∃ vs:Array Value,x = .func (.func f) #[] vs∧cs.length=vs.size ∧ ∀ (i:Nat) (c:V) (v:Value),cs[i]? = some c→vs[i]? = some v→VR Γ w c v:=by
 cases h with
 | rd _ _ h=>cases h with
  | clo _ _ vs hl hr=>exact ⟨vs,rfl,hl,λ i c v h1 h2=>.rd _ _ (hr i c v h1 h2)⟩
 | clo _ _ vs hl hr=>exact ⟨vs,rfl,hl,hr⟩
theorem VR.undef_ (x:Value):VR Γ w .undef x:=.rd _ _ (.undef x)
theorem VR.sl_inv {s:Nat}{f:Bool}{xs:List V}{x:Value}(h:VR Γ w (.sl s f xs) x):Rd w Γ.S (.sl s f xs) x:=by
 cases h with
 | rd _ _ h=>exact h
theorem VR.ptr_inv {d n:Nat}{x:Value}(h:VR Γ w (.ptr d n) x):x = .pointer (some ⟨Γ.box d,n,none⟩)∧Γ.lb d:=by
 cases h with
 | rd _ _ h=>cases h
 | ptr _ _ h=>exact ⟨rfl,h⟩
theorem VR.iptr_inv {v:V}{n:Nat}{x:Value}(h:VR Γ w (.iptr v n) x):∃ (k o:Nat) (g:Nat→Value),x = .pointer (some ⟨k,o+n,none⟩)∧Γ.S k ∧
  (∀ j:Nat,j < v.cells.length→w.cell? ⟨k,o+j,none⟩=some (g j))∧(∀ (j:Nat) (c:V),v.cells[j]? = some c→Rd w Γ.S c (g j)):=by
 cases h with
 | rd _ _ h=>cases h with
  | iptr _ k o _ g hS hg hr=>exact ⟨k,o,g,rfl,hS,hg,hr⟩
theorem VR.vptr_inv {b:Nat}{v:V}{n:Nat}{x:Value}(h:VR Γ w (.vptr b v n) x):∃ (o:Nat) (g:Nat→Value),x = .pointer (some ⟨Γ.blk b,o+n,none⟩)∧Γ.has b ∧
  (∀ j:Nat,j < v.cells.length→w.cell? ⟨Γ.blk b,o+j,none⟩=some (g j))∧(∀ (j:Nat) (c:V),v.cells[j]? = some c→Rd w Γ.S c (g j)):=by
 cases h with
 | rd _ _ h=>cases h
 | vptr _ _ o _ g hb hg hr=>exact ⟨o,g,rfl,hb,hg,hr⟩
theorem VR.eptr_inv {b s:Nat}{q:Q}{xs:List V}{i n:Nat}{x:Value}(h:VR Γ w (.eptr b s q xs i n) x):x = .pointer (some ⟨Γ.blk b,Γ.off b+i * s+n,none⟩) ∧
  Γ.has b∧s=Γ.sz b∧(xs.length≤Γ.cap b∧xs.length=Γ.ln b)∧i < xs.length∧Rows w (Γ.Sq q) s xs (Γ.blk b) (Γ.off b)∧flatOk q xs:=by
 cases h with
 | rd _ _ h=>cases h
 | eptr _ _ _ _ _ _ hb hs hl hi hr hq _=>exact ⟨rfl,hb,hs,hl,hi,hr,hq⟩
theorem VR.own_inv {b s:Nat}{q:Q}{xs:List V}{x:Value}(h:VR Γ w (.own b s q xs) x):(x = .slice none 0 0∧xs=[] ∧ ¬ Γ.has b) ∨
  (x = .slice (some ⟨Γ.blk b,Γ.off b,none⟩) xs.length (Γ.cap b)∧Γ.has b∧s=Γ.sz b∧(xs.length≤Γ.cap b∧xs.length=Γ.ln b)∧Rows w (Γ.Sq q) s xs (Γ.blk b) (Γ.off b)∧flatOk q xs):=by
 cases h with
 | rd _ _ h=>cases h
 | ownNil _ _ _ hb=>exact .inl ⟨rfl,rfl,hb⟩
 | own _ _ _ _ hb hs hl hr hq _=>exact .inr ⟨rfl,hb,hs,hl,hr,hq⟩
theorem VR.view_inv {b s:Nat}{q:Q}{xs:List V}{x:Value}(h:VR Γ w (.view b s q xs) x):(∃ a cap,x = .slice a 0 cap∧xs=[]) ∨
  (∃ o cap,x = .slice (some ⟨Γ.blk b,o,none⟩) xs.length cap∧Γ.has b∧0 < xs.length∧xs.length≤cap∧(o+cap * s≤Γ.off b+Γ.cap b * Γ.sz b∧cap≤Γ.cap b)∧Rows w (Γ.Sq q) s xs (Γ.blk b) o∧flatOk q xs):=by
 cases h with
 | rd _ _ h=>cases h
 | view0 _ _ _ a cap _=>exact .inl ⟨a,cap,rfl,rfl⟩
 | view _ _ _ _ o cap hb hx hl hfit hr hq _=>exact .inr ⟨o,cap,rfl,hb,hx,hl,hfit,hr,hq⟩
theorem VR.view0_of {b s:Nat}{q:Q}{a:Option Addr}{cap:Nat}(h:VR Γ w (.view b s q []) (.slice a 0 cap)):V0 Γ b s a cap:=by
 generalize hx:Value.slice a 0 cap=x at h
 cases h with
 | rd _ _ h=>cases h
 | view0 _ _ _ a cap h0=>injection hx with h1 h2 h3; subst h1; subst h3; exact h0
 | view _ _ _ _ o cap hb h1=>exact absurd h1 (Nat.lt_irrefl 0)
theorem g1s {q:Q}{b s k o:Nat}:Γ.Uq w q b s [] k o:=λ _ _=>
 ⟨λ _ _=>undef,λ _ _ _=>False,λ i j hi=>absurd hi (Nat.not_lt_zero _),λ i x j c hx=>by simp at hx,λ _ _ _ _ _ h=>h.elim,λ _ _ _ h=>h.elim⟩
theorem VR.own_uq {b s:Nat}{q:Q}{xs:List V}{x:Value}(h:VR Γ w (.own b s q xs) x):Γ.Uq w q b s xs (Γ.blk b) (Γ.off b):=by
 cases h with
 | rd _ _ h=>cases h
 | ownNil _ _ _ hb=>exact g1s
 | own _ _ _ _ hb hs hl hr hq hu=>exact hu
theorem VR.view_uq {b s:Nat}{q:Q}{xs:List V}{k o n cap:Nat}(h:VR Γ w (.view b s q xs) (.slice (some ⟨k,o,none⟩) n cap)):Γ.Uq w q b s xs k o:=by
 cases h with
 | rd _ _ h=>cases h
 | view0 _ _ _ a cap _=>exact g1s
 | view _ _ _ _ o cap hb hx hl hfit hr hq hu=>exact hu
theorem VR.eptr_uq {b s:Nat}{q:Q}{xs:List V}{i n:Nat}{x:Value}(h:VR Γ w (.eptr b s q xs i n) x):Γ.Uq w q b s xs (Γ.blk b) (Γ.off b):=by
 cases h with
 | rd _ _ h=>cases h
 | eptr _ _ _ _ _ _ hb hs hl hi hr hq hu=>exact hu
theorem o1i (v:Value):VR Γ w (v0a v) v:=by
 cases v with
 | bool b=>exact .rd _ _ (.bool b)
 | int k n=>exact .rd _ _ (.int k n)
 | string s=>exact .rd _ _ (.str _ s rfl)
 | slice o l cp=>
  cases o with
  | some o=>exact .undef_ _
  | none=>
   cases l with
   | succ l=>exact .undef_ _
   | zero=>
    cases cp with
    | succ cp=>exact .undef_ _
    | zero=>exact .rd _ _ .nil
 | _=>exact .undef_ _
theorem Sim.ev (hs:Sim Γ st a w)(x:Operand):VR Γ w (ev st.t x) (a.eval x):=by
 cases x with
 | tmp i=>
  simp only [Am.ev,Act.eval]
  cases h:st.t[i]? with
  | none=>simp only [List.getD,h]; exact .undef_ _
  | some v=>
   obtain ⟨y,hy,hv⟩:=hs.tm i v h
   simp only [List.getD,h,Array.getD_eq_getD_getElem?,hy]
   exact hv
 | const v=>exact o1i v
 | global g=>exact .undef_ _
 | func f=>exact .clo f [] #[] rfl (by simp)
theorem Sim.put (hs:Sim Γ st a w){d:Nat}{v:V}{x:Value}(hv:VR Γ w v x):Sim Γ { st with t:=st.t.set d v } (a.put (some d) x) w:=by
 refine ⟨hs.good,hs.dz,by simp [Act.put,hs.len],λ i u hu=>?_,hs.bx,hs.nds,hs.du,hs.nd,by simp [hs.nt]⟩
 simp only [Act.put] at hu ⊢
 rw [List.getElem?_set] at hu
 split at hu
 ·rename_i hid
  subst hid
  split at hu
  ·rename_i hlt
   injection hu with hu
   subst hu
   exact ⟨x,by rw [Array.getElem?_setIfInBounds]; simp [hs.len,hlt],hv⟩
  ·cases hu
 ·rename_i hid
  obtain ⟨y,hy,h⟩:=hs.tm i u hu
  exact ⟨y,by rw [Array.getElem?_setIfInBounds]; simp [hid,hy],h⟩
theorem VR.cellLen {v:V}{x:Value}(h:VR Γ w v x)(hd:v.isDef=true):v.cells.length=x.cells.size:=by
 cases h with
 | rd _ _ h=>cases h with
  | undef=>cases hd
  | agg _ _ hl=>exact hl
  | _=>rfl
 | agg _ _ hl=>exact hl
 | _=>rfl
theorem VR.cells {v:V}{x:Value}(h:VR Γ w v x)(hu:v.cells.length=x.cells.size):∀ (j:Nat) (c:V),v.cells[j]? = some c → ∃ y,x.cells[j]? = some y∧VR Γ w c y:=by
 intro j c hc
 cases v with
 | agg cs=>
  obtain ⟨vs,rfl,hl,hr⟩:=h.agg_inv
  simp only [V.cells] at hc
  have hj:j < cs.length:=(gs_ hc).1
  refine ⟨vs[j]'(by omega),by simp [Value.cells,Array.getElem?_eq_getElem (show j < vs.size by omega)],hr j c _ hc (Array.getElem?_eq_getElem (by omega))⟩
 | undef=>
  obtain rfl:j=0:=by
   cases j with
   | zero=>rfl
   | succ j=>simp [V.cells] at hc
  simp only [V.cells,List.getElem?_cons_zero,sj_] at hc
  subst hc
  exact ⟨x.cells[0]'(by rw [← hu]; simp [V.cells]),Array.getElem?_eq_getElem _,.undef_ _⟩
 | _=>
  obtain rfl:j=0:=by
   cases j with
   | zero=>rfl
   | succ j=>simp [V.cells] at hc
  simp only [V.cells,List.getElem?_cons_zero,sj_] at hc
  subst hc
  have hx:x.cells = #[x]:=by
   cases h with
   | rd _ _ h=>cases h <;> rfl
   | _=>rfl
  exact ⟨x,by rw [hx]; rfl,h⟩
end
end Go.Am
end
