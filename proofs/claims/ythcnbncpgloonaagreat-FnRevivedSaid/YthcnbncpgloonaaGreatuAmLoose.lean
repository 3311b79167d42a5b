/-
  Operations that may stand on either side of a call that is handed values over.
-/
import Derived.Test.YthcnbncpgloonaaGreatuAmAside
set_option linter.unusedVariables false
set_option linter.unusedSimpArgs false
namespace Go.Am
open Go Go.RowKit
section
variable {P:Program}{c:Cfg}{st st' A S:St}{den:Nat→List V→Option V}{d e x X:Nat}{ops:Array Oper}{o:Oper}{v u r:V}{f:V→Option V}
theorem f0b (st:St)(f:V→Option V)(e:Nat)(v:V):(st.slot e v).sweep f=(st.sweep f).slot e (v.mapB f):=by
 unfold St.sweep St.slot
 simp only [q0e]
structure Nice (f:V→Option V):Prop where
  one:∀ v u,f v=some u→u.cells=[u]
  bool:∀ b,f (.bool b)=none
  int:∀ k n,f (.int k n)=none
  str:∀ s,f (.str s)=none
  ptr:∀ d n,f (.ptr d n)=none
  und:f .undef=none
theorem k0y:Nice (coarse true):=⟨m0u true,λ _=>rfl,λ _ _=>rfl,λ _=>rfl,λ _ _=>rfl,rfl⟩
theorem g0g (dead:Nat→Bool):Nice (b0s dead):=⟨n0f dead,λ _=>rfl,λ _ _=>rfl,λ _=>rfl,λ _ _=>rfl,rfl⟩
theorem z0y (l:List Nat):Nice (e0d l):=⟨t0i l,λ _=>rfl,λ _ _=>rfl,λ _=>rfl,λ _ _=>rfl,rfl⟩
theorem f0i (l:List Nat):Nice (a0p l):=⟨λ v u h=>by
 unfold a0p at h
 split at h <;> first
  | (cases h; done)
  | (split at h <;> first | (cases h; done) | (simp only [sj_] at h; subst h; rfl)),λ _=>rfl,λ _ _=>rfl,λ _=>rfl,λ _ _=>rfl,rfl⟩
def c0u (fs:List (V→Option V))(v:V):V:=fs.foldl (λ v f=>v.mapB f) v
def NiceL (fs:List (V→Option V)):Prop:=∀ f∈fs,Nice f
theorem NiceL.nil:NiceL []:=λ _ h=>by cases h
theorem NiceL.cons {fs:List (V→Option V)}(h:Nice f)(hs:NiceL fs):NiceL (f :: fs):=λ g hg=>by
 rcases List.mem_cons.1 hg with rfl | hg
 ·exact h
 ·exact hs g hg
theorem NiceL.app {fs gs:List (V→Option V)}(h:NiceL fs)(hs:NiceL gs):NiceL (fs++gs):=λ g hg=>by
 rcases List.mem_append.1 hg with hg | hg
 ·exact h g hg
 ·exact hs g hg
theorem d0s (fs gs:List (V→Option V))(v:V):c0u (fs++gs) v=c0u gs (c0u fs v):=List.foldl_append
theorem s0u (hn:Nice f)(h:g0d v=true):v.mapB f=v:=by
 cases v with
 | bool b=>simp only [V.mapB,hn.bool]; rfl
 | int k n=>simp only [V.mapB,hn.int]; rfl
 | str s=>simp only [V.mapB,hn.str]; rfl
 | ptr d n=>simp only [V.mapB,hn.ptr]; rfl
 | _=>cases h
theorem c0x {fs:List (V→Option V)}(hn:NiceL fs)(h:g0d v=true):c0u fs v=v:=by
 induction fs with
 | nil=>rfl
 | cons f fs ih=>
  show c0u fs (v.mapB f)=v
  rw [s0u (hn f (by simp)) h]
  exact ih (λ g hg=>hn g (by simp [hg]))
theorem e1f (f:V→Option V):∀ (n:Nat) (l:List V),V.mapBs f (l.drop n)=(V.mapBs f l).drop n:=by
 intro n
 induction n with
 | zero=>intro l; rfl
 | succ n ih=>intro l; cases l with
  | nil=>rfl
  | cons a l=>exact ih l
theorem e1g (f:V→Option V):∀ (n:Nat) (l:List V),V.mapBs f (l.take n)=(V.mapBs f l).take n:=by
 intro n
 induction n with
 | zero=>intro l; rfl
 | succ n ih=>intro l; cases l with
  | nil=>rfl
  | cons a l=>rw [List.take_succ_cons,V.mapBs,ih,V.mapBs,List.take_succ_cons]
theorem t0e (hn:Nice f)(ag:Bool)(n o:Nat)(r:V):f0s ag n ((r.mapB f).cells.drop o)=(f0s ag n (r.cells.drop o)).map (V.mapB f):=by
 rw [d0a _ hn.one,← e1f]
 generalize r.cells.drop o=cs
 unfold f0s
 rw [a0f]
 split
 ·rfl
 ·split
  ·simp only [Option.map_some,V.mapB,e1g]
  ·split
   ·cases cs <;> rfl
   ·rfl
theorem q0l {fs:List (V→Option V)}(hn:NiceL fs)(ag:Bool)(n o:Nat)(r:V):f0s ag n ((c0u fs r).cells.drop o)=(f0s ag n (r.cells.drop o)).map (c0u fs):=by
 induction fs generalizing r with
 | nil=>show _=(f0s ag n (r.cells.drop o)).map id; rw [Option.map_id]; rfl
 | cons f fs ih=>
  show f0s ag n ((c0u fs (r.mapB f)).cells.drop o)=_
  rw [ih (λ g hg=>hn g (by simp [hg])),t0e (hn f (by simp)),Option.map_map]
  rfl
def Cov (st:St)(v:V):Prop:=g0d v=true ∨ ∃ X r ag n o,st.h.getD X none=some r∧f0s ag n (r.cells.drop o)=some v
theorem e0b (f:V→Option V)(h:List (Option V))(X:Nat):(d0c f h).getD X none=(h.getD X none).map (V.mapB f):=by
 rw [List.getD_eq_getElem?_getD,List.getD_eq_getElem?_getD,j0d]
 cases h[X]? with
 | none=>rfl
 | some z=>rfl
theorem Cov.sweep (h:Cov st v)(hn:Nice f):Cov (st.sweep f) (v.mapB f):=by
 rcases h with h | ⟨X,r,ag,n,o,h1,h2⟩
 ·rw [s0u hn h]; exact .inl h
 ·refine .inr ⟨X,r.mapB f,ag,n,o,?_,by rw [t0e hn,h2]; rfl⟩
  show (d0c f st.h).getD X none=_
  rw [e0b,h1]; rfl
theorem x0k {p:V→Bool}(ag:Bool){n:Nat}{cs:List V}(h:f0s ag n cs=some v):(∃ l,v = .agg l ∧ ∀ u∈l,u∈cs)∨v∈cs:=by
 unfold f0s at h
 split at h
 ·cases h
 ·split at h
  ·injection h with h
   exact .inl ⟨_,h.symm,λ u hu=>List.mem_of_mem_take hu⟩
  ·split at h
   ·exact .inr (List.mem_of_mem_head? h)
   ·cases h
theorem h1e {p:Nat→Bool}:∀ {h:List (Option V)},k0r p h=false → ∀ X r,h.getD X none=some r→r.anyB p=false:=by
 intro h hh X r hr
 rw [List.getD_eq_getElem?_getD] at hr
 cases hx:h[X]? with
 | none=>rw [hx] at hr; cases hr
 | some z=>
  rw [hx] at hr
  simp only [Option.getD_some] at hr
  subst hr
  exact i0o hh r (List.mem_of_getElem? hx)
theorem h1g {p:Nat→Bool}:∀ {h:List (Option V)},l0j p h=false → ∀ X r,h.getD X none=some r→r.anyP p=false:=by
 intro h hh X r hr
 rw [List.getD_eq_getElem?_getD] at hr
 cases hx:h[X]? with
 | none=>rw [hx] at hr; cases hr
 | some z=>
  rw [hx] at hr
  simp only [Option.getD_some] at hr
  subst hr
  exact l0k hh r (List.mem_of_getElem? hx)
theorem p0l {p:Nat→Bool}{r u:V}(h:r.anyB p=false)(hu:u∈r.cells):u.anyB p=false:=by
 cases r with
 | agg cs=>exact a0u h u hu
 | _=>simp only [V.cells,List.mem_singleton] at hu; subst hu; exact h
theorem p0m {p:Nat→Bool}{r u:V}(h:r.anyP p=false)(hu:u∈r.cells):u.anyP p=false:=by
 cases r with
 | agg cs=>exact c0o h u hu
 | _=>simp only [V.cells,List.mem_singleton] at hu; subst hu; exact h
theorem Cov.anyB (h:Cov st v){p:Nat→Bool}(hp:k0r p st.h=false):v.anyB p=false:=by
 rcases h with h | ⟨X,r,ag,n,o,h1,h2⟩
 ·cases v <;> first | rfl | cases h
 ·have hr:=h1e hp X r h1
  rcases x0k (p:=λ _=>true) ag h2 with ⟨l,rfl,hl⟩ | hv
  ·exact j0k λ u hu=>p0l hr (List.mem_of_mem_drop (hl u hu))
  ·exact p0l hr (List.mem_of_mem_drop hv)
theorem n0t {f:V→Option V}(hf:∀ v,f v=none)(v:V):v.mapB f=v:=by
 refine V.rec (motive_1:=λ v=>v.mapB f=v) (motive_2:=λ vs=>V.mapBs f vs=vs)
  ?_ ?_ ?_ ?_ ?_ ?_ ?_ ?_ ?_ ?_ ?_ ?_ (λ _ h=>by simp only [V.mapB]; rw [h]) (λ _ h=>by simp only [V.mapB]; rw [h]) (λ _ _ h=>by simp only [V.mapB]; rw [h]) rfl (λ _ _ h1 h2=>by rw [V.mapBs,h1,h2]) v
 all_goals (intros; simp only [V.mapB,hf]; rfl)
theorem u0y {f:V→Option V}(hf:∀ v,f v=none)(l:List V):V.mapBs f l=l:=by
 have:=n0t hf (.agg l)
 simp only [V.mapB,V.agg.injEq] at this
 exact this
theorem u0x {f:V→Option V}(hf:∀ v,f v=none):∀ (l:List (Option V)),d0c f l=l:=by
 intro l
 induction l with
 | nil=>rfl
 | cons a l ih=>cases a with
  | none=>rw [d0c,ih]
  | some v=>rw [d0c,ih,n0t hf]
theorem d1r:∀ (l:List V) (k:Nat),g0b [] k l=l:=by
 intro l
 induction l with
 | nil=>intro k; rfl
 | cons a l ih=>intro k; rw [g0b,ih]; rfl
theorem h1w:∀ (l:List (Option V)) (k:Nat),u0j [] k l=l:=by
 intro l
 induction l with
 | nil=>intro k; rfl
 | cons a l ih=>intro k; rw [u0j,ih]; rfl
theorem l0u (st:St):st.head ([],[])=(st.calm.sweep (b0s st.calm.dead)).canon:=by
 have hd:∀ v,f0z [] v=none:=λ v=>by cases v <;> rfl
 unfold St.head St.head0
 simp only [d1r,h1w,o0u,List.filterMap_nil,St.sweep,u0y hd,u0x hd]
theorem u0e {l:List Nat}{b:Nat}(h:b∈l):n1i l b=l:=by
 unfold n1i
 rw [if_pos (List.contains_iff_mem.2 h)]
theorem n1o (v:V):∀ l:List Nat,(∀ b,v.anyB (λ b'=>b' == b)=true→b∈l)→V.bases l v=l:=by
 refine V.rec (motive_1:=λ v=>∀ l:List Nat,(∀ b,v.anyB (λ b'=>b' == b)=true→b∈l)→V.bases l v=l) (motive_2:=λ vs=>∀ l:List Nat,(∀ b,V.anyBs (λ b'=>b' == b) vs=true→b∈l)→V.basess l vs=l)
  (λ _ _=>rfl) (λ _ _ _=>rfl) (λ _ _ _ _=>rfl) (λ _ _ _=>rfl) (λ _ _=>rfl) (λ _ _ _ _ _ _=>rfl) (λ b _ _ _ _ l h=>u0e (h b (by simp [V.anyB]))) (λ b _ _ _ _ l h=>u0e (h b (by simp [V.anyB]))) (λ _ _ _ _=>rfl) (λ b _ _ _ _ _ _ l h=>u0e (h b (by simp [V.anyB]))) (λ b _ _ _ l h=>u0e (h b (by simp [V.anyB]))) (λ _ _ _ _ _=>rfl)
  (λ _ ih l h=>ih l h) (λ _ ih l h=>ih l h) (λ _ _ ih l h=>ih l h) (λ _ _=>rfl) ?_ v
 intro v vs h1 h2 l h
 rw [V.basess,h1 l (λ b hb=>h b (by rw [V.anyBs,hb]; rfl))]
 exact h2 l (λ b hb=>h b (by rw [V.anyBs,hb,Bool.or_true]))
theorem d1j:∀ (t:List V) (l:List Nat) (e:Nat) (v:V),t.getD e .undef = .undef→(∀ b,v.anyB (λ b'=>b' == b)=true→b∈l)→V.basess l (t.set e v)=V.basess l t:=by
 intro t
 induction t with
 | nil=>intro l e v _ _; rfl
 | cons a t ih=>
  intro l e v he hv
  cases e with
  | zero=>
   have ha:a = .undef:=he
   subst ha
   rw [List.set_cons_zero,V.basess,V.basess,n1o v l hv]
   rfl
  | succ e=>
   rw [List.set_cons_succ,V.basess,V.basess]
   exact ih _ e v (by simpa using he) (λ b hb=>f0w b a l (.inl (hv b hb)))
theorem s0g (st:St)(he:st.t.getD e .undef = .undef)(h:Cov st v):(st.slot e v).canon=st.canon.slot e (v.mapB (e0d (V.basess (g0p [] st.h) st.t))):=by
 have hl:V.basess (g0p [] (st.slot e v).h) (st.slot e v).t=V.basess (g0p [] st.h) st.t:=by
  refine d1j st.t _ e v he (λ b hb=>?_)
  cases hp:k0r (λ b'=>b' == b) st.h with
  | false=>rw [h.anyB hp] at hb; cases hb
  | true=>
   refine s0e b st.h [] (.inr ?_)
   clear hb h he
   generalize st.h=hh at hp
   induction hh with
   | nil=>cases hp
   | cons a hh ih=>
    cases a with
    | none=>
     obtain ⟨u,h1,h2⟩:=ih hp
     exact ⟨u,by simp [h1],h2⟩
    | some z=>
     rw [k0r,Bool.or_eq_true] at hp
     rcases hp with hp | hp
     ·exact ⟨z,by simp,hp⟩
     ·obtain ⟨u,h1,h2⟩:=ih hp
      exact ⟨u,by simp [h1],h2⟩
 unfold St.canon
 simp only [hl]
 rw [f0b]
 rfl
def e0i (st:St):List (V→Option V):=(if st.dup=true then [coarse true] else [])++[b0s st.calm.dead,e0d (V.basess (g0p [] (st.calm.sweep (b0s st.calm.dead)).h) (st.calm.sweep (b0s st.calm.dead)).t)]
theorem b0u (st:St):NiceL (e0i st):=by
 unfold e0i
 refine NiceL.app ?_ (NiceL.cons (g0g _) (NiceL.cons (z0y _) NiceL.nil))
 split
 ·exact NiceL.cons k0y NiceL.nil
 ·exact NiceL.nil
theorem m0s (st:St):st.calm.t=V.mapBs (coarse true) st.t∧st.calm.h=d0c (coarse true) st.h∧st.dup=true∨st.calm=st∧st.dup=false:=by
 unfold St.calm
 split
 ·rename_i h; exact .inl ⟨rfl,rfl,h⟩
 ·rename_i h; exact .inr ⟨rfl,h⟩
theorem h0x (hn:Nice f)(h:st.t.getD e .undef = .undef):(st.sweep f).t.getD e .undef = .undef:=e0a hn.und st.t e h
theorem p0x (st:St)(he:st.t.getD e .undef = .undef)(h:Cov st v):(st.slot e v).head ([],[])=(st.head ([],[])).slot e (c0u (e0i st) v):=by
 rw [l0u,l0u]
 by_cases hd:st.dup=true
 ·have e1:st.calm = { st.sweep (coarse true) with dup:=false }:=by unfold St.calm; rw [hd]
  have e2:(st.slot e v).calm=st.calm.slot e (v.mapB (coarse true)):=by
   rw [e1]
   unfold St.calm
   rw [show (st.slot e v).dup=true from hd,f0b]
   rfl
  have hc1:Cov st.calm (v.mapB (coarse true)):=by
   have:=h.sweep k0y
   rw [e1]
   exact this
  have he1:st.calm.t.getD e .undef = .undef:=by rw [e1]; exact h0x (st:=st) k0y he
  rw [e2,f0b,s0g _ (h0x (g0g _) he1) (hc1.sweep (g0g _))]
  unfold e0i
  rw [if_pos hd]
  rfl
 ·have hd':st.dup=false:=by simpa using hd
  have e1:st.calm=st:=by unfold St.calm; rw [hd']
  have e2:(st.slot e v).calm=st.slot e v:=by
   unfold St.calm
   rw [show (st.slot e v).dup=false from hd']
  unfold e0i
  rw [if_neg hd,e2,e1]
  show ((st.slot e v).sweep (b0s st.dead)).canon=_
  rw [f0b,s0g _ (h0x (g0g _) he) (h.sweep (g0g _))]
  rfl
theorem b0q (st:St)(x:Nat):(st.head ([],[])).t.getD x .undef=c0u (e0i st) (st.t.getD x .undef):=by
 rw [l0u]
 unfold e0i
 rcases m0s st with ⟨h1,h2,h3⟩ | ⟨h1,h2⟩
 ·rw [if_pos h3]
  show (V.mapBs (e0d _) (V.mapBs (b0s _) st.calm.t)).getD x .undef=_
  rw [b0i rfl,b0i rfl,h1,b0i rfl]
  rfl
 ·rw [if_neg (by rw [h2]; simp)]
  show (V.mapBs (e0d _) (V.mapBs (b0s _) st.calm.t)).getD x .undef=_
  rw [b0i rfl,b0i rfl,h1]
  rfl
theorem e0r (st:St)(X:Nat):(st.head ([],[])).h.getD X none=(st.h.getD X none).map (c0u (e0i st)):=by
 rw [l0u]
 unfold e0i
 rcases m0s st with ⟨h1,h2,h3⟩ | ⟨h1,h2⟩
 ·rw [if_pos h3]
  show (d0c (e0d _) (d0c (b0s _) st.calm.h)).getD X none=_
  rw [e0b,e0b,h2,e0b]
  cases st.h.getD X none <;> rfl
 ·rw [if_neg (by rw [h2]; simp)]
  show (d0c (e0d _) (d0c (b0s _) st.calm.h)).getD X none=_
  rw [e0b,e0b,h1]
  cases st.h.getD X none <;> rfl
theorem h1f {p:Nat→Bool}:∀ (t:List V) (e:Nat) (u:V),t.getD e .undef = .undef→u.anyB p=false→V.anyBs p (t.set e u)=V.anyBs p t:=by
 intro t
 induction t with
 | nil=>intro e u _ _; rfl
 | cons a t ih=>
  intro e u he hu
  cases e with
  | zero=>
   have ha:a = .undef:=he
   subst ha
   rw [List.set_cons_zero,V.anyBs,V.anyBs,hu]
   rfl
  | succ e=>rw [List.set_cons_succ,V.anyBs,V.anyBs,ih e u (by simpa using he) hu]
theorem w0s {p:Nat→Bool}:∀ (t:List V) (e:Nat) (u:V),t.getD e .undef = .undef→u.anyP p=false→V.anyPs p (t.set e u)=V.anyPs p t:=by
 intro t
 induction t with
 | nil=>intro e u _ _; rfl
 | cons a t ih=>
  intro e u he hu
  cases e with
  | zero=>
   have ha:a = .undef:=he
   subst ha
   rw [List.set_cons_zero,V.anyPs,V.anyPs,hu]
   rfl
  | succ e=>rw [List.set_cons_succ,V.anyPs,V.anyPs,ih e u (by simpa using he) hu]
theorem j0l {p:Nat→Bool}{t:List V}{x:Nat}(h:(t.getD x .undef).anyP p=true):V.anyPs p t=true:=by
 cases hp:V.anyPs p t with
 | true=>rfl
 | false=>
  rw [List.getD_eq_getElem?_getD] at h
  cases hx:t[x]? with
  | none=>rw [hx] at h; cases h
  | some v=>rw [hx] at h; have:=c0o hp v (a0a hx); rw [show (some v).getD V.undef=v from rfl,this] at h; cases h
inductive Src (st:St) (e d:Nat) (js:List Nat) (v:V):Prop
  | inert (x:Nat) (h1:g0d v=true) (h2:x ≠ e) (h3:x ≠ d) (h4:g0d (st.t.getD x .undef)=true) (h5:∀ q,v.anyP q=true→(st.t.getD x .undef).anyP q=true)
  | load (X:Nat) (r:V) (ag:Bool) (n o:Nat) (h1:st.h.getD X none=some r) (h2:f0s ag n (r.cells.drop o)=some v) (h3:X ∉ js) (h4:X ≠ d)
variable {js:List Nat}
theorem Src.cov (h:Src st e d js v):Cov st v:=by
 cases h with
 | inert x h1=>exact .inl h1
 | load X r ag n o h1 h2 h3 h4=>exact .inr ⟨X,r,ag,n,o,h1,h2⟩
theorem Src.map {fs:List (V→Option V)}(hn:NiceL fs)(ht:∀ x,x ≠ d→S.t.getD x .undef=c0u fs (st.t.getD x .undef))(hh:∀ X,X ∉ js→X ≠ d→S.h.getD X none=(st.h.getD X none).map (c0u fs))(h:Src st e d js v):Src S e d js (c0u fs v):=by
 cases h with
 | inert x h1 h2 h3 h4 h5=>
  have ex:S.t.getD x .undef=st.t.getD x .undef:=by rw [ht x h3,c0x hn h4]
  rw [c0x hn h1]
  exact .inert x h1 h2 h3 (by rw [ex]; exact h4) (λ q hq=>by rw [ex]; exact h5 q hq)
 | load X r ag n o h1 h2 h3 h4=>exact .load X (c0u fs r) ag n o (by rw [hh X h3 h4,h1]; rfl) (by rw [q0l hn,h2]; rfl) h3 h4
theorem Src.anyP (h:Src st e d js v){q:Nat→Bool}(hq:v.anyP q=true):(∃ x,x ≠ e∧x ≠ d∧(st.t.getD x .undef).anyP q=true)∨l0j q st.h=true:=by
 cases h with
 | inert x h1 h2 h3 h4 h5=>exact .inl ⟨x,h2,h3,h5 q hq⟩
 | load X r ag n o h1 h2 h3 h4=>
  cases hp:l0j q st.h with
  | true=>exact .inr rfl
  | false=>
   have hr:=h1g hp X r h1
   rcases x0k (p:=λ _=>true) ag h2 with ⟨l,rfl,hl⟩ | hv
   ·have:=l0l (p:=q) λ u hu=>p0m hr (List.mem_of_mem_drop (hl u hu))
    rw [show (V.agg l).anyP q=V.anyPs q l from rfl,this] at hq
    cases hq
   ·rw [p0m hr (List.mem_of_mem_drop hv)] at hq
    cases hq
theorem y0b {t:List V}{e d:Nat}(hed:e ≠ d){w:V}(h:t.getD e .undef = .undef):(t.set d w).getD e .undef = .undef:=(b0o hed).trans h
theorem d1s (he:st.t.getD e .undef = .undef)(hed:e ≠ d)(h:Src st e d js v):(st.slot e v).freeD d=st.freeD d:=by
 unfold St.freeD St.slot
 simp only
 cases hp:k0r (λ b=>b / 1000 == d) st.h with
 | true=>simp
 | false=>rw [List.set_comm _ _ hed,h1f _ e v (y0b hed he) (h.cov.anyB hp)]
theorem d1i {q:Nat→Bool}(he:st.t.getD e .undef = .undef)(h:Src st e d js v)(hp:l0j q st.h=false):V.anyPs q (st.t.set e v)=V.anyPs q st.t:=by
 cases hv:v.anyP q with
 | false=>exact w0s _ e v he hv
 | true=>
  rcases h.anyP hv with ⟨x,h1,h2,h3⟩ | h3
  ·rw [j0l (t:=st.t) h3,j0l (t:=st.t.set e v) (x:=x) (by rw [b0o h1]; exact h3)]
  ·rw [hp] at h3; cases h3
theorem d1t (he:st.t.getD e .undef = .undef)(hed:e ≠ d)(h:Src st e d js v):(st.slot e v).freeP d=st.freeP d:=by
 unfold St.freeP St.slot
 simp only
 cases hp:l0j (λ b=>b == d) st.h with
 | true=>simp
 | false=>
  rw [List.set_comm _ _ hed]
  cases hv:v.anyP (λ b=>b == d) with
  | false=>rw [w0s _ e v (y0b hed he) hv]
  | true=>
   rcases h.anyP hv with ⟨x,h1,h2,h3⟩ | h3
   ·rw [j0l (t:=st.t.set d .undef) (x:=x) (by rw [b0o h2]; exact h3),j0l (t:=(st.t.set d .undef).set e v) (x:=x) (by rw [b0o h1,b0o h2]; exact h3)]
   ·rw [hp] at h3; cases h3
theorem d1o (he:st.t.getD e .undef = .undef)(h:Src st e d js v):b0t ops [] (st.slot e v)=b0t ops [] st:=by
 unfold b0t St.slot
 simp only [List.all_nil,Bool.true_and]
 refine congrArg _ (funext λ o=>?_)
 cases o.dst with
 | none=>rfl
 | some d'=>
  simp only
  cases hp:l0j (λ d''=>d'' == d') st.h with
  | true=>simp
  | false=>rw [d1i he h hp]
theorem p1d (st:St)(e:Nat)(v:V):(st.slot e v).t.length=st.t.length:=by simp [St.slot]
theorem z0o {s:Io}{p:IoPre}{r:V}(he:st.t.getD e .undef = .undef)(hed:e ≠ d)(h:Src st e d p.js v):k0h (st.slot e v) d s p r=(k0h st d s p r).map (λ S=>S.slot e (v.mapB (a0p p.L))):=by
 have hs1:Src (st.sweep (a0p p.L)) e d p.js (v.mapB (a0p p.L)):=by
  refine Src.map (fs:=[a0p p.L]) (NiceL.cons (f0i _) NiceL.nil) (λ x _=>?_) (λ X _ _=>?_) h
  ·exact b0i rfl st.t x
  ·exact e0b _ st.h X
 have he1:(st.sweep (a0p p.L)).t.getD e .undef = .undef:=h0x (f0i _) he
 have hfD:=d1s he1 hed hs1
 have hfP:=d1t he1 hed hs1
 unfold k0h
 cases r with
 | tup outs=>
  simp only [f0b,hfD,hfP,p1d]
  split
  ·cases hb:s.rb with
   | false=>
    cases hrs:V.mapBs (d0t d) (outs.take (outs.length - p.js.length)) with
    | nil=>
     simp only [Option.map_some,St.slot,St.kill,St.mark]
     rw [List.set_comm _ _ hed]
    | cons x xs=>
     cases xs with
     | nil=>
      simp only [Option.map_some,St.slot,St.kill,St.mark]
      rw [List.set_comm _ _ hed]
     | cons y ys=>
      simp only [Option.map_some,St.slot,St.kill,St.mark]
      rw [List.set_comm _ _ hed]
   | true=>
    cases hrs:V.mapBs (d0t d) (outs.take (outs.length - p.js.length)) with
    | nil=>rfl
    | cons x xs=>
     cases xs with
     | nil=>
      simp only [show (st.slot e v).h=st.h from rfl]
      split
      ·simp only [Option.map_some,St.slot,St.kill,St.mark]
       rw [List.set_comm _ _ hed]
      ·rfl
     | cons y ys=>rfl
  ·rfl
 | _=>rfl
theorem h0w:∀ (js:List Nat) (bs:List V) (h:List (Option V)) (X:Nat),X ∉ js→(d0x h js bs).getD X none=h.getD X none:=by
 intro js
 induction js with
 | nil=>intro bs h X _; cases bs <;> rfl
 | cons j js ih=>
  intro bs h X hX
  cases bs with
  | nil=>rfl
  | cons b bs=>
   rw [d0x,ih bs _ X (λ h=>hX (by simp [h]))]
   rw [List.getD_eq_getElem?_getD,List.getD_eq_getElem?_getD,List.getElem?_set_ne (λ e=>hX (by simp [e]))]
theorem k0x {s:Io}{p:IoPre}{r:V}(h:k0h st d s p r=some S):(∀ x,x ≠ d→S.t.getD x .undef=c0u [a0p p.L] (st.t.getD x .undef)) ∧ ∀ X,X ∉ p.js→X ≠ d→S.h.getD X none=(st.h.getD X none).map (c0u [a0p p.L]):=by
 have h1:∀ x,(V.mapBs (a0p p.L) st.t).getD x .undef=c0u [a0p p.L] (st.t.getD x .undef):=λ x=>b0i rfl st.t x
 have h2:∀ X,(d0c (a0p p.L) st.h).getD X none=(st.h.getD X none).map (c0u [a0p p.L]):=λ X=>e0b _ st.h X
 have hset:∀ (hh:List (Option V)) (X:Nat) (y:Option V),X ≠ d→(hh.set d y).getD X none=hh.getD X none:=λ hh X y hX=>by
  rw [List.getD_eq_getElem?_getD,List.getD_eq_getElem?_getD,List.getElem?_set_ne (Ne.symm hX)]
 unfold k0h at h
 cases r with
 | tup outs=>
  simp only at h
  split at h
  ·split at h
   ·split at h
    ·simp only [sj_] at h
     subst h
     exact ⟨λ x hx=>(b0o hx).trans (h1 x),λ X hX hd=>(hset _ X _ hd).trans ((h0w _ _ _ X hX).trans (h2 X))⟩
    ·cases h
   ·cases h
   ·simp only [sj_] at h
    subst h
    exact ⟨λ x hx=>(b0o hx).trans (h1 x),λ X hX hd=>(h0w _ _ _ X hX).trans (h2 X)⟩
   ·simp only [sj_] at h
    subst h
    exact ⟨λ x hx=>(b0o hx).trans (h1 x),λ X hX hd=>(h0w _ _ _ X hX).trans (h2 X)⟩
  ·cases h
 | _=>cases h
def o1d (s:Io)(az:List Operand)(t:List V):Option (List Nat):=g1a (c0b Mode.isPt s.md (az.map (ev t)))
theorem u0t {f:Nat}{s:Io}{az:List V}{p:IoPre}(h:m0w c st f s az=some p):g1a (c0b Mode.isPt s.md az)=some p.js:=by
 unfold m0w at h
 split at h
 ·rename_i js hj
  split at h
  ·split at h
   ·simp only [sj_] at h
    subst h
    exact hj
   ·cases h
  ·cases h
 ·cases h
theorem b1y {x:Operand}(h:∀ t,x = .tmp t→t ≠ e):ev (st.slot e v).t x=ev st.t x:=by
 cases x with
 | tmp t=>exact b0o (h t rfl)
 | _=>rfl
theorem e1a {f:Nat}{s:Io}{az:List Operand}(hr:∀ t,Operand.tmp t∈az→t ≠ e):m0w c (st.slot e v) f s (az.map (ev (st.slot e v).t))=m0w c st f s (az.map (ev st.t)):=by
 rw [List.map_congr_left (g:=ev st.t) (λ x hx=>b1y (λ t ht=>hr t (ht ▸ hx)))]
 rfl
theorem z0p {f:Nat}{s:Io}{az:List Operand}(he:st.t.getD e .undef = .undef)(hed:e ≠ d)(hr:∀ t,Operand.tmp t∈az→t ≠ e)(h:∀ js,o1d s az st.t=some js→Src st e d js v) :
  (c0c c den st (some d) f s az=none∧c0c c den (st.slot e v) (some d) f s az=none) ∨ ∃ S L js,o1d s az st.t=some js∧c0c c den st (some d) f s az=some S∧c0c c den (st.slot e v) (some d) f s az=some (S.slot e (c0u [a0p L] v)) ∧
   (∀ x,x ≠ d→S.t.getD x .undef=c0u [a0p L] (st.t.getD x .undef)) ∧ ∀ X,X ∉ js→X ≠ d→S.h.getD X none=(st.h.getD X none).map (c0u [a0p L]):=by
 unfold c0c
 simp only [e1a hr]
 cases hp:m0w c st f s (az.map (ev st.t)) with
 | none=>exact .inl ⟨rfl,rfl⟩
 | some p=>
  simp only
  have hj:=u0t hp
  cases hd:den f (h0e :: p.args) with
  | none=>exact .inl ⟨rfl,rfl⟩
  | some r=>
   simp only
   rw [z0o he hed (h p.js hj)]
   cases hS:k0h st d s p r with
   | none=>exact .inl ⟨rfl,rfl⟩
   | some S=>
    obtain ⟨k1,k2⟩:=k0x hS
    exact .inr ⟨S,p.L,p.js,hj,rfl,rfl,k1,k2⟩
theorem j0b {fs:List (V→Option V)}(hn:NiceL fs):c0u fs .undef = .undef:=by
 induction fs with
 | nil=>rfl
 | cons f fs ih=>
  show c0u fs (V.undef.mapB f)=_
  rw [show V.undef.mapB f = .undef by show (f .undef).getD .undef=_; rw [(hn f (by simp)).und]; rfl]
  exact ih (λ g hg=>hn g (by simp [hg]))
theorem t0r {f:Nat}{s:Io}{az:List Operand}(hio:i0h c o.op=some (f,s,az))(hod:o.dst=some d)(he:st.t.getD e .undef = .undef)(hed:e ≠ d)(hr:∀ t,Operand.tmp t∈az→t ≠ e)(hj:o1d s az (st.head ([],[])).t=some js)(hsrc:Src st e d js v) :
  (stepB c den ops st o=none∧stepB c den ops (st.slot e v) o=none) ∨ ∃ S fs,NiceL fs∧stepB c den ops st o=some S∧stepB c den ops (st.slot e v) o=some (S.slot e (c0u fs v)) ∧
   (∀ x,x ≠ d→S.t.getD x .undef=c0u fs (st.t.getD x .undef)) ∧ ∀ X,X ∉ js→X ≠ d→S.h.getD X none=(st.h.getD X none).map (c0u fs):=by
  unfold stepB
  simp only [hio,hod]
  rw [p0x st he hsrc.cov]
  have hH:Src (st.head ([],[])) e d js (c0u (e0i st) v):=hsrc.map (b0u st) (λ x _=>b0q st x) (λ X _ _=>e0r st X)
  have heH:(st.head ([],[])).t.getD e .undef = .undef:=by rw [b0q,he,j0b (b0u st)]
  rcases z0p (c:=c) (den:=den) (f:=f) heH hed hr (λ js' hj'=>by rw [hj] at hj'; injection hj' with hj'; subst hj'; exact hH) with ⟨h1,h2⟩ | ⟨S,L,js',hj',h1,h2,k1,k2⟩
  ·rw [h1,h2]; exact .inl ⟨rfl,rfl⟩
  ·rw [hj] at hj'
   injection hj' with hj'
   subst hj'
   rw [h1,h2]
   simp only
   have hnp:NiceL [a0p L]:=NiceL.cons (f0i _) NiceL.nil
   have hS:Src S e d js (c0u [a0p L] (c0u (e0i st) v)):=hH.map hnp k1 k2
   have heS:S.t.getD e .undef = .undef:=by rw [k1 e hed,heH,j0b hnp]
   rw [p0x S heS hS.cov]
   have hS2:Src (S.head ([],[])) e d js (c0u (e0i S) (c0u [a0p L] (c0u (e0i st) v))):=hS.map (b0u S) (λ x _=>b0q S x) (λ X _ _=>e0r S X)
   have heS2:(S.head ([],[])).t.getD e .undef = .undef:=by rw [b0q,heS,j0b (b0u S)]
   rw [d1o heS2 hS2]
   cases hen:b0t ops [] (S.head ([],[])) with
   | false=>exact .inl ⟨rfl,rfl⟩
   | true=>
    refine .inr ⟨S.head ([],[]),e0i st++([a0p L]++e0i S),(b0u st).app (hnp.app (b0u S)),rfl,?_,λ x hx=>?_,λ X hX hd=>?_⟩
    ·rw [d0s,d0s]
    ·rw [b0q,k1 x hx,b0q,d0s,d0s]
    ·rw [e0r,k2 X hX hd,e0r]
     cases st.h.getD X none with
     | none=>rfl
     | some r=>simp only [Option.map_some,d0s]
structure Quietf (f:V→Option V):Prop where
  und:f .undef=none
  nil:f .nil=none
  ptr:∀ d n,f (.ptr d n)=none
  bool:∀ b,f (.bool b)=none
  int:∀ k n,f (.int k n)=none
  str:∀ s,f (.str s)=none
  vals:∀ v u,f v=some u→u = .undef ∨ ∃ b s q xs,u = .own b s q xs
theorem e1x:Quietf (λ _=>none):=⟨rfl,rfl,λ _ _=>rfl,λ _=>rfl,λ _ _=>rfl,λ _=>rfl,λ _ _ h=>by cases h⟩
theorem x0p (b:Nat):Quietf (a0h b):=⟨rfl,rfl,λ _ _=>rfl,λ _=>rfl,λ _ _=>rfl,λ _=>rfl,λ v u h=>by
 unfold a0h at h
 split at h <;> first | (cases h; done) | (split at h <;> first | (cases h; done) | (injection h with h; subst h; exact .inl rfl))⟩
theorem a1g (b:Nat)(q:Q)(ys:List V):Quietf (c0v b q ys):=⟨rfl,rfl,λ _ _=>rfl,λ _=>rfl,λ _ _=>rfl,λ _=>rfl,λ v u h=>by
 unfold c0v at h
 split at h <;> first | (cases h; done) | (split at h <;> first | (cases h; done) | (injection h with h; subst h; first | exact .inl rfl | exact .inr ⟨_,_,_,_,rfl⟩))⟩
theorem h0l {dst:Option Nat}{op:Op}(hr:∀ t,Operand.tmp t∈op.operands.toList→t ≠ d)(hd:dst ≠ some d):(b0b c st dst op=none∧b0b c (st.slot d v) dst op=none) ∨
  ∃ s f,Quietf f∧b0b c st dst op=some s∧b0b c (st.slot d v) dst op=some (s.slot d (v.mapB f)) ∧ ∀ z,dst ≠ some z→s.t.getD z .undef=(st.t.getD z .undef).mapB f:=by
 cases op with
 | store t ad x=>
  have h1:ev (st.slot d v).t ad=ev st.t ad:=e0h (λ t e=>hr t (by simp [Op.operands,e]))
  have h2:ev (st.slot d v).t x=ev st.t x:=e0h (λ t e=>hr t (by simp [Op.operands,e]))
  simp only [b0b,h1,h2]
  cases c.ty t with
  | none=>exact .inl ⟨rfl,rfl⟩
  | some i=>
   simp only
   split
   ·cases ev st.t ad with
    | ptr b o=>
     simp only
     have hh:(st.slot d v).h=st.h:=rfl
     rw [hh]
     cases st.h.getD b none with
     | none=>exact .inl ⟨rfl,rfl⟩
     | some rr=>
      simp only
      cases o0v rr.cells o (ev st.t x).cells with
      | none=>exact .inl ⟨rfl,rfl⟩
      | some cs=>exact .inr ⟨_,λ _=>none,e1x,rfl,by rw [j0c]; rfl,λ z _=>(j0c _).symm⟩
    | eptr b s k xs i' o=>
     have hdd:(st.slot d v).dead=st.dead:=rfl
     simp only [hdd]
     by_cases hcc:st.dead b=false∧(b0k (c0e i.nz (ev st.t x)).cells).contains b=false
     ·rw [if_pos hcc,if_pos hcc]
      cases l0s (c0e i.nz (ev st.t x)).cells with
      | none=>exact .inl ⟨rfl,rfl⟩
      | some new=>
       simp only
       cases g0v xs i' o new with
       | none=>exact .inl ⟨rfl,rfl⟩
       | some ys=>
        refine .inr ⟨_,_,a1g _ _ _,rfl,?_,λ z _=>b0i rfl _ _⟩
        simp only [f0b]
        rfl
     ·rw [if_neg hcc,if_neg hcc]
      exact .inl ⟨rfl,rfl⟩
    | _=>exact .inl ⟨rfl,rfl⟩
   ·exact .inl ⟨rfl,rfl⟩
 | call cl=>
  obtain ⟨callee,args,ts⟩:=cl
  cases callee with
  | builtin bi=>
   cases bi with
   | append=>
    simp only [b0b]
    rcases hl:args.toList with _ | ⟨x,_ | ⟨y,_ | ⟨z,zs⟩⟩⟩
    ·exact .inl ⟨rfl,rfl⟩
    ·exact .inl ⟨rfl,rfl⟩
    ·have h1:ev (st.slot d v).t x=ev st.t x:=e0h (λ t e=>hr t (by simp [Op.operands,Call.operands,hl,e]))
     have h2:ev (st.slot d v).t y=ev st.t y:=e0h (λ t e=>hr t (by simp [Op.operands,Call.operands,hl,e]))
     rcases hts:ts.toList with _ | ⟨t1,_ | ⟨t2,_ | ⟨t3,tr⟩⟩⟩
     ·exact .inl ⟨rfl,rfl⟩
     ·exact .inl ⟨rfl,rfl⟩
     ·cases dst with
      | none=>exact .inl ⟨rfl,rfl⟩
      | some e=>
       have he:e ≠ d:=λ h=>hd (by rw [h])
       simp only [h1,h2]
       cases c.ty t1 with
       | none=>exact .inl ⟨rfl,rfl⟩
       | some i=>
        obtain ⟨dd,sz,by_,z0,cm⟩:=i
        cases dd with
        | slice e'=>
         simp only
         cases c.ty e' with
         | none=>exact .inl ⟨rfl,rfl⟩
         | some j=>
          cases ev st.t x with
          | own b s k xs=>
           simp only
           cases i0g s (ev st.t y) with
           | none=>exact .inl ⟨rfl,rfl⟩
           | some qq=>
            obtain ⟨k',ys⟩:=qq
            have hdd:(st.slot d v).dead=st.dead:=rfl
            simp only [hdd]
            by_cases hcc:t2=t1∧s=j.size∧j.size ≠ 0∧st.dead b=false∧(xs.length+ys.length) * j.bytes≤140737488355328∧xs.length+ys.length≤140737488355328∧b ≠ 999
            ·rw [if_pos hcc,if_pos hcc]
             refine .inr ⟨_,_,x0p b,rfl,?_,λ z hz=>(b0o (λ e=>hz (by rw [e]))).trans (b0i rfl _ _)⟩
             simp only [f0b]
             unfold St.slot St.kill St.mark
             simp only [List.set_comm _ _ he]
            ·rw [if_neg hcc,if_neg hcc]
             exact .inl ⟨rfl,rfl⟩
          | _=>exact .inl ⟨rfl,rfl⟩
        | _=>exact .inl ⟨rfl,rfl⟩
     ·exact .inl ⟨rfl,rfl⟩
    ·exact .inl ⟨rfl,rfl⟩
   | _=>exact .inl ⟨rfl,rfl⟩
  | _=>exact .inl ⟨rfl,rfl⟩
 | _=>exact .inl ⟨rfl,rfl⟩
def f1q (c:Cfg)(op:Op)(ρ:Operand→V):Option V:=
 match op with
 | .move x=>some (ρ x)
 | .assign x=>some (ρ x)
 | .pick x a b=>match ρ x with
  | .bool true=>some (ρ a)
  | .bool false=>some (ρ b)
  | _=>none
 | .binOp op t x y _=>match c.ty t with
  | some i=>w0u i op (ρ x) (ρ y)
  | none=>none
 | .extract x i=>match ρ x with
  | .tup vs=>vs[i]?
  | _=>none
 | _=>none
theorem f1p {op:Op}{ρ:Operand→V}{η:Nat→Option V}(h:u0u op=true):a0d c den ρ η d op=(f1q c op ρ).map .val:=by
 cases op with
 | move x=>rfl
 | assign x=>rfl
 | pick x a b=>
  simp only [a0d,f1q,plain]
  cases ρ x with
  | bool t=>cases t <;> rfl
  | _=>rfl
 | binOp op t x y z=>
  simp only [a0d,f1q,plain]
  cases c.ty t with
  | none=>rfl
  | some i=>
   simp only
   cases w0u i op (ρ x) (ρ y) <;> rfl
 | extract x i=>
  simp only [a0d,f1q,plain]
  cases ρ x with
  | tup vs=>simp only; cases vs[i]? <;> rfl
  | _=>rfl
 | _=>cases h
theorem c1c {f:V→Option V}(hf:Quietf f){u w:V}(h:u.mapB f=w)(hw:(∃ b,w = .bool b)∨(∃ k n,w = .int k n)∨(∃ s,w = .str s)):u=w:=by
 have leaf:∀ u:V,u.mapB f=(f u).getD u→u.mapB f=w→u=w:=λ u hu h=>by
  rw [hu] at h
  cases hq:f u with
  | none=>rw [hq] at h; exact h
  | some z=>
   rw [hq] at h
   simp only [Option.getD_some] at h
   rcases hf.vals u z hq with e | ⟨b,s,q,xs,e⟩
   ·rw [e] at h; rcases hw with ⟨_,rfl⟩ | ⟨_,_,rfl⟩ | ⟨_,rfl⟩ <;> cases h
   ·rw [e] at h; rcases hw with ⟨_,rfl⟩ | ⟨_,_,rfl⟩ | ⟨_,rfl⟩ <;> cases h
 cases u with
 | agg cs=>simp only [V.mapB] at h; rcases hw with ⟨_,rfl⟩ | ⟨_,_,rfl⟩ | ⟨_,rfl⟩ <;> cases h
 | tup cs=>simp only [V.mapB] at h; rcases hw with ⟨_,rfl⟩ | ⟨_,_,rfl⟩ | ⟨_,rfl⟩ <;> cases h
 | clo g cs=>simp only [V.mapB] at h; rcases hw with ⟨_,rfl⟩ | ⟨_,_,rfl⟩ | ⟨_,rfl⟩ <;> cases h
 | _=>exact leaf _ rfl h
theorem y0a {z c:V}(h:d0w z c=true):(∃ b,c = .bool b)∨(∃ k n,c = .int k n)∨(∃ s,c = .str s):=by
 cases z <;> cases c <;> first | (cases h; done) | exact .inl ⟨_,rfl⟩ | exact .inr (.inl ⟨_,_,rfl⟩) | exact .inr (.inr ⟨_,rfl⟩)
theorem m0l {f:V→Option V}(hf:Quietf f){w:V}(hw:(∃ b,w = .bool b)∨(∃ k n,w = .int k n)∨(∃ s,w = .str s)):w.mapB f=w:=by
 rcases hw with ⟨_,rfl⟩ | ⟨_,_,rfl⟩ | ⟨_,rfl⟩
 ·simp only [V.mapB,hf.bool]; rfl
 ·simp only [V.mapB,hf.int]; rfl
 ·simp only [V.mapB,hf.str]; rfl
theorem f0t {f:V→Option V}(hf:Quietf f):∀ (zs cs:List V),(a0j zs cs=true∨a0j zs (V.mapBs f cs)=true)→V.mapBs f cs=cs:=by
 intro zs
 induction zs with
 | nil=>
  intro cs h
  cases cs with
  | nil=>rfl
  | cons c cs=>rcases h with h | h <;> cases h
 | cons z zs ih=>
  intro cs h
  cases cs with
  | nil=>rfl
  | cons c cs=>
   rw [V.mapBs,a0j,a0j,Bool.and_eq_true,Bool.and_eq_true] at h
   rw [V.mapBs]
   rcases h with ⟨h1,h2⟩ | ⟨h1,h2⟩
   ·rw [ih cs (.inl h2),m0l hf (y0a h1)]
   ·rw [ih cs (.inr h2)]
    have:=c1c hf rfl (y0a h1)
    rw [← this]
theorem b1q {i:TyInfo}{op:BinOp}{u v w:V}(h:w0u i op u v=some w):((∃ b,w = .bool b)∨(∃ k n,w = .int k n)∨(∃ s,w = .str s)) ∧
  ((((∃ b,u = .bool b)∨(∃ k n,u = .int k n)∨(∃ s,u = .str s))∧((∃ b,v = .bool b)∨(∃ k n,v = .int k n)∨(∃ s,v = .str s))) ∨ ∃ cu cv,u = .agg cu∧v = .agg cv∧a0j i.zero.cells cu=true∧a0j i.zero.cells cv=true):=by
 unfold w0u at h
 split at h
 ·refine ⟨?_,.inl ⟨.inl ⟨_,rfl⟩,.inl ⟨_,rfl⟩⟩⟩
  repeat' split at h
  all_goals first | (cases h; done) | (simp only [sj_] at h; subst h; exact .inl ⟨_,rfl⟩)
 ·refine ⟨?_,.inl ⟨.inr (.inl ⟨_,_,rfl⟩),.inr (.inl ⟨_,_,rfl⟩)⟩⟩
  repeat' split at h
  all_goals first
   | (cases h; done)
   | (simp only [sj_] at h; subst h; exact .inr (.inl ⟨_,_,rfl⟩))
   | skip
  unfold z0n at h
  repeat' split at h
  all_goals first
   | (cases h; done)
   | (simp only [sj_] at h; subst h; first | exact .inl ⟨_,rfl⟩ | exact .inr (.inl ⟨_,_,rfl⟩))
   | skip
  obtain ⟨n,_,rfl⟩:=Option.map_eq_some_iff.1 h
  exact .inr (.inl ⟨_,_,rfl⟩)
 ·refine ⟨?_,.inl ⟨.inr (.inr ⟨_,rfl⟩),.inr (.inr ⟨_,rfl⟩)⟩⟩
  unfold f1j at h
  repeat' split at h
  all_goals first
   | (cases h; done)
   | (simp only [sj_] at h; subst h; first | exact .inl ⟨_,rfl⟩ | exact .inr (.inr ⟨_,rfl⟩))
 ·split at h
  ·rename_i r hs _
   rw [Bool.and_eq_true,Bool.and_eq_true] at hs
   simp only [sj_] at h; subst h
   exact ⟨.inl ⟨_,rfl⟩,.inr ⟨_,_,rfl,rfl,hs.1.2,hs.2⟩⟩
  ·rename_i r hs _
   rw [Bool.and_eq_true,Bool.and_eq_true] at hs
   simp only [sj_] at h; subst h
   exact ⟨.inl ⟨_,rfl⟩,.inr ⟨_,_,rfl,rfl,hs.1.2,hs.2⟩⟩
  ·cases h
 ·cases h
theorem n1p {f:V→Option V}(hf:Quietf f)(i:TyInfo)(op:BinOp)(u v:V):w0u i op (u.mapB f) (v.mapB f)=(w0u i op u v).map (V.mapB f):=by
 cases hb:w0u i op u v with
 | some w=>
  obtain ⟨h1,h2⟩:=b1q hb
  have hfix:u.mapB f=u∧v.mapB f=v:=by
   rcases h2 with ⟨h3,h4⟩ | ⟨cu,cv,rfl,rfl,h3,h4⟩
   ·exact ⟨m0l hf h3,m0l hf h4⟩
   ·exact ⟨by simp only [V.mapB]; rw [f0t hf _ _ (.inl h3)],by simp only [V.mapB]; rw [f0t hf _ _ (.inl h4)]⟩
  rw [hfix.1,hfix.2,hb,Option.map_some,m0l hf h1]
 | none=>
  cases hb2:w0u i op (u.mapB f) (v.mapB f) with
  | none=>rfl
  | some w=>
   exfalso
   obtain ⟨h1,h2⟩:=b1q hb2
   have agg_of:∀ (u:V) (cu:List V),u.mapB f = .agg cu → ∃ c0,u = .agg c0∧V.mapBs f c0=cu:=λ u cu h=>by
    have leaf:∀ u:V,u.mapB f=(f u).getD u→(∀ l,u ≠ .agg l)→u.mapB f = .agg cu→False:=λ u hu hn h=>by
     rw [hu] at h
     cases hq:f u with
     | none=>rw [hq] at h; exact hn _ h
     | some z=>
      rw [hq] at h
      simp only [Option.getD_some] at h
      rcases hf.vals u z hq with e | ⟨b,s,q,xs,e⟩ <;> (rw [e] at h; cases h)
    cases u with
    | agg c0=>simp only [V.mapB,V.agg.injEq] at h; exact ⟨c0,rfl,h⟩
    | tup cs=>simp only [V.mapB] at h; cases h
    | clo g cs=>simp only [V.mapB] at h; cases h
    | _=>exact (leaf _ rfl (λ l h=>by cases h) h).elim
   have hfix:u.mapB f=u∧v.mapB f=v:=by
    rcases h2 with ⟨h3,h4⟩ | ⟨cu,cv,e3,e4,h3,h4⟩
    ·exact ⟨(c1c hf rfl h3).symm,(c1c hf rfl h4).symm⟩
    ·obtain ⟨c0,rfl,e5⟩:=agg_of _ _ e3
     obtain ⟨c1,rfl,e6⟩:=agg_of _ _ e4
     exact ⟨by simp only [V.mapB]; rw [f0t hf _ _ (.inr (by rw [e5]; exact h3))],by simp only [V.mapB]; rw [f0t hf _ _ (.inr (by rw [e6]; exact h4))]⟩
   rw [hfix.1,hfix.2,hb] at hb2
   cases hb2
theorem j1t {f:V→Option V}(hf:Quietf f)(v:Value):(v0a v).mapB f=v0a v:=by
 unfold v0a
 split
 ·simp only [V.mapB,hf.bool]; rfl
 ·simp only [V.mapB,hf.int]; rfl
 ·simp only [V.mapB,hf.str]; rfl
 ·simp only [V.mapB,hf.nil]; rfl
 ·simp only [V.mapB,hf.und]; rfl
theorem y1y {f:V→Option V}(hf:Quietf f){s:St}{x:Operand}(h:∀ t,x = .tmp t→s.t.getD t .undef=(st.t.getD t .undef).mapB f):ev s.t x=(ev st.t x).mapB f:=by
 cases x with
 | tmp t=>exact h t rfl
 | const v=>exact (j1t hf v).symm
 | func g=>rfl
 | global g=>show V.undef=V.undef.mapB f; simp only [V.mapB,hf.und]; rfl
theorem r1o {f:V→Option V}(hf:Quietf f)(u:V):(∃ c0,u = .tup c0∧u.mapB f = .tup (V.mapBs f c0))∨((∀ l,u ≠ .tup l) ∧ ∀ l,u.mapB f ≠ .tup l):=by
 have leaf:∀ u:V,u.mapB f=(f u).getD u→(∀ l,u ≠ .tup l) → ∀ l,u.mapB f ≠ .tup l:=λ u hu hn l h=>by
  rw [hu] at h
  cases hq:f u with
  | none=>rw [hq] at h; exact hn _ h
  | some z=>
   rw [hq] at h
   simp only [Option.getD_some] at h
   rcases hf.vals u z hq with e | ⟨b,s,q,xs,e⟩ <;> (rw [e] at h; cases h)
 cases u with
 | tup c0=>exact .inl ⟨c0,rfl,rfl⟩
 | agg cs=>exact .inr ⟨λ _ h=>(by cases h),λ _ h=>(by simp only [V.mapB] at h; cases h)⟩
 | clo g cs=>exact .inr ⟨λ _ h=>(by cases h),λ _ h=>(by simp only [V.mapB] at h; cases h)⟩
 | _=>exact .inr ⟨λ _ h=>(by cases h),leaf _ rfl (λ _ h=>(by cases h))⟩
theorem h1k {f:V→Option V}(hf:Quietf f)(u:V):(∃ b,u = .bool b∧u.mapB f = .bool b)∨((∀ b,u ≠ .bool b) ∧ ∀ b,u.mapB f ≠ .bool b):=by
 by_cases h:∃ b,u.mapB f = .bool b
 ·obtain ⟨b,h⟩:=h
  exact .inl ⟨b,c1c hf h (.inl ⟨b,rfl⟩),h⟩
 ·refine .inr ⟨λ b e=>h ⟨b,?_⟩,λ b e=>h ⟨b,e⟩⟩
  rw [e,m0l hf (.inl ⟨b,rfl⟩)]
theorem p1n {f:V→Option V}(hf:Quietf f){op:Op}{ρ ρ':Operand→V}(h:∀ x∈op.operands.toList,ρ' x=(ρ x).mapB f):f1q c op ρ' = (f1q c op ρ).map (V.mapB f):=by
 cases op with
 | move x=>simp only [f1q,Option.map_some]; rw [h x (by simp [Op.operands])]
 | assign x=>simp only [f1q,Option.map_some]; rw [h x (by simp [Op.operands])]
 | pick x a b=>
  simp only [f1q]
  rw [h x (by simp [Op.operands]),h a (by simp [Op.operands]),h b (by simp [Op.operands])]
  rcases h1k hf (ρ x) with ⟨t,e1,e2⟩ | ⟨h1,h2⟩
  ·rw [e2,e1]; cases t <;> rfl
  ·generalize hu:(ρ x).mapB f=u at h2
   generalize hv:ρ x=v at h1
   have:∀ (w:V) (y z:Option V),(∀ b,w ≠ .bool b)→(match w with
    | .bool true=>y
    | .bool false=>z
    | _=>none)=none:=λ w y z hw=>by cases w <;> first | rfl | exact absurd rfl (hw _)
   rw [this u _ _ h2,this v _ _ h1]
   rfl
 | binOp op t x y z=>
  simp only [f1q]
  rw [h x (by simp [Op.operands]),h y (by simp [Op.operands])]
  cases c.ty t with
  | none=>rfl
  | some i=>exact n1p hf i op _ _
 | extract x i=>
  simp only [f1q]
  rw [h x (by simp [Op.operands])]
  rcases r1o hf (ρ x) with ⟨c0,e1,e2⟩ | ⟨h1,h2⟩
  ·rw [e2,e1]; exact a0e f c0 i
  ·generalize hu:(ρ x).mapB f=u at h2
   generalize hv:ρ x=v at h1
   have:∀ (w:V) (g:List V→Option V),(∀ b,w ≠ .tup b)→(match w with
    | .tup vs=>g vs
    | _=>none)=none:=λ w g hw=>by cases w <;> first | rfl | exact absurd rfl (hw _)
   rw [this u _ h2,this v _ h1]
   rfl
 | _=>rfl
def r1c (c:Cfg)(ops:Array Oper)(st:St)(x:Oper):Option V:=
 match wanted ops st.t x with
 | none=>none
 | some true=>f1q c x.op (ev st.t)
 | some false=>some d0g
theorem l0v {x:Oper}(h:d0q x=true):u0u x.op=true ∧ ∃ dx,x.dst=some dx:=by
 unfold d0q at h
 rw [Bool.and_eq_true] at h
 exact ⟨h.1,Option.isSome_iff_exists.1 h.2⟩
theorem o0t {x:Oper}{dx:Nat}(hx:u0u x.op=true)(hd:x.dst=some dx):a0m c den ops st x=(r1c c ops st x).map (λ v=>st.slot dx v):=by
 unfold a0m r1c
 cases wanted ops st.t x with
 | none=>rfl
 | some b=>
  cases b with
  | false=>simp only [hd]; rfl
  | true=>
   simp only
   unfold step
   have hne:c0g st x.op=false:=by
    cases hop:x.op <;> rw [hop] at hx <;> first | rfl | cases hx
   rw [hne]
   simp only [Bool.false_eq_true,if_false,hd]
   rw [f1p hx]
   cases f1q c x.op (ev st.t) <;> rfl
theorem c1a {f:V→Option V}(hf:Quietf f){s:St}{x:Oper}(h:∀ z,z∈b0h ops x→s.t.getD z .undef=(st.t.getD z .undef).mapB f):r1c c ops s x=(r1c c ops st x).map (V.mapB f):=by
 have hw:wanted ops s.t x=wanted ops st.t x:=by
  unfold wanted
  cases hg:x.guard with
  | none=>rfl
  | some jw=>
   obtain ⟨j,want⟩:=jw
   simp only
   cases hd:(ops[j]?).bind (·.dst) with
   | none=>rfl
   | some d=>
    simp only
    rw [h d (by unfold b0h; rw [hg]; exact List.mem_append.2 (.inr (by simp [hd])))]
    generalize st.t.getD d .undef=u
    rcases h1k hf u with ⟨b,rfl,e⟩ | ⟨h1,h2⟩
    ·rw [e]
    ·rcases r1o hf u with ⟨l,rfl,e⟩ | ⟨h3,h4⟩
     ·rw [e]; cases l <;> rfl
     ·have none_of:∀ w:V,(∀ b,w ≠ .bool b)→(∀ l,w ≠ .tup l)→(match w with
       | .bool b=>some (b == want)
       | .tup []=>some false
       | _=>none)=none:=λ w k1 k2=>by
        cases w with
        | bool b=>exact absurd rfl (k1 b)
        | tup l=>exact absurd rfl (k2 l)
        | _=>rfl
      exact (none_of _ h2 h4).trans (none_of _ h1 h3).symm
 unfold r1c
 rw [hw]
 cases wanted ops st.t x with
 | none=>rfl
 | some b=>
  cases b with
  | true=>exact p1n hf (λ q hq=>y1y hf (λ t e=>h t (b0j (by rw [← e]; exact hq))))
  | false=>rfl
theorem r1b {x:Oper}(hx:a0m c den ops st x=some st')(sx:¬ g0y ops st x):c0g st x.op=true∧wanted ops st.t x=some true∧b0b c st x.dst x.op=some st':=by
 have h1:c0g st x.op=true:=by
  cases hi:c0g st x.op with
  | true=>rfl
  | false=>exact absurd (.inl hi) sx
 have hw:wanted ops st.t x=some true:=by
  unfold a0m at hx
  cases hw:wanted ops st.t x with
  | none=>rw [hw] at hx; cases hx
  | some b=>
   cases b with
   | true=>rfl
   | false=>exact absurd (.inr hw) sx
 refine ⟨h1,hw,?_⟩
 unfold a0m at hx
 rw [hw] at hx
 simp only at hx
 unfold step at hx
 rw [if_pos h1] at hx
 exact hx
theorem q0z {x:Oper}(h1:c0g st x.op=true)(hw:wanted ops st.t x=some true):a0m c den ops st x=b0b c st x.dst x.op:=by
 unfold a0m
 rw [hw]
 simp only
 unfold step
 rw [if_pos h1]
theorem y0k {x y:Oper}{s1 s2:St}(hx:a0m c den ops st x=some s1)(hy:a0m c den ops s1 y=some s2)(sy:¬ g0y ops s1 y)(hxe:d0q x=true)
  (hne:∀ dx,x.dst=some dx→y.dst ≠ some dx∧dx ∉ b0h ops y) (rx:∀ e,y.dst=some e→e ∉ b0h ops x):∃ s,a0m c den ops st y=some s∧a0m c den ops s x=some s2:=by
 obtain ⟨hop,dx,hd⟩:=l0v hxe
 obtain ⟨n1,n2⟩:=hne dx hd
 rw [o0t hop hd] at hx
 cases hr:r1c c ops st x with
 | none=>rw [hr] at hx; cases hx
 | some v=>
  rw [hr] at hx
  simp only [Option.map_some,sj_] at hx
  subst hx
  obtain ⟨h1,hw,he⟩:=r1b hy sy
  have hro:∀ t,Operand.tmp t∈y.op.operands.toList→t ≠ dx:=λ t ht e=>n2 (e ▸ b0j ht)
  rcases h0l (c:=c) (v:=v) (st:=st) (d:=dx) hro n1 with ⟨_,h⟩ | ⟨s,f,hf,e1,e2,e3⟩
  ·rw [h] at he; cases he
  ·rw [e2] at he
   injection he with he
   subst he
   refine ⟨s,?_,?_⟩
   ·rw [q0z (by rw [← e0s (st:=st) (st2:=st.slot dx v) (λ q hq=>e0h (λ t e=>hro t (e ▸ hq)))]; exact h1) (by rw [h0y n2] at hw; exact hw),e1]
   ·rw [o0t hop hd,c1a hf (λ z hz=>e3 z (λ h=>rx z h hz)),hr]
    rfl
theorem y0j {x y:Oper}{s1 s2:St}(hx:a0m c den ops st x=some s1)(hy:a0m c den ops s1 y=some s2)(sx:¬ g0y ops st x)(hye:d0q y=true)
  (hne:∀ dy,y.dst=some dy→x.dst ≠ some dy∧dy ∉ b0h ops x) (ry:∀ e,x.dst=some e→e ∉ b0h ops y):∃ s,a0m c den ops st y=some s∧a0m c den ops s x=some s2:=by
 obtain ⟨hop,dy,hd⟩:=l0v hye
 obtain ⟨n1,n2⟩:=hne dy hd
 obtain ⟨h1,hw,he⟩:=r1b hx sx
 have hro:∀ t,Operand.tmp t∈x.op.operands.toList→t ≠ dy:=λ t ht e=>n2 (e ▸ b0j ht)
 rw [o0t hop hd] at hy
 rcases h0l (c:=c) (v:=(r1c c ops st y).getD .undef) (st:=st) (d:=dy) hro n1 with ⟨h,_⟩ | ⟨s,f,hf,e1,e2,e3⟩
 ·rw [h] at he; cases he
 ·rw [e1] at he
  injection he with he
  subst he
  rw [c1a hf (λ z hz=>e3 z (λ h=>ry z h hz))] at hy
  cases hr:r1c c ops st y with
  | none=>rw [hr] at hy; cases hy
  | some v=>
   rw [hr] at hy e2
   simp only [Option.map_some,sj_,Option.getD_some] at hy e2
   subst hy
   refine ⟨st.slot dy v,by rw [o0t hop hd,hr]; rfl,?_⟩
   rw [q0z (by rw [e0s (st:=st) (st2:=st.slot dy v) (λ q hq=>e0h (λ t e=>hro t (e ▸ hq)))]; exact h1) (by rw [h0y n2]; exact hw),e2]
theorem y0f {dst:Option Nat}{t y Y m:Nat}{xv:Operand}{S:St}(hy:st.t.getD y .undef = .ptr Y m)(h:b0b c st dst (.store t (.tmp y) xv)=some S):S.t=st.t ∧ ∀ X,X ≠ Y→S.h.getD X none=st.h.getD X none:=by
 have he:ev st.t (.tmp y) = .ptr Y m:=hy
 simp only [b0b,he] at h
 repeat' split at h
 all_goals first | (cases h; done) | skip
 all_goals
  simp only [sj_] at h
  subst h
  refine ⟨rfl,λ X hX=>?_⟩
  show (st.h.set Y _).getD X none=_
  rw [List.getD_eq_getElem?_getD,List.getD_eq_getElem?_getD,List.getElem?_set_ne (Ne.symm hX)]
theorem k0k {dst:Option Nat}{t y Y m:Nat}{xv:Operand}(hy:st.t.getD y .undef = .ptr Y m)(h1:y ≠ e)(h2:∀ t,xv = .tmp t→t ≠ e):b0b c (st.slot e v) dst (.store t (.tmp y) xv)=(b0b c st dst (.store t (.tmp y) xv)).map (λ s=>s.slot e v):=by
 have he:ev st.t (.tmp y) = .ptr Y m:=hy
 have he':ev (st.slot e v).t (.tmp y) = .ptr Y m:=(e0h (x:=.tmp y) (λ t ht=>by injection ht with ht; exact ht ▸ h1)).trans he
 have hx':ev (st.slot e v).t xv=ev st.t xv:=e0h h2
 simp only [b0b,he,he',hx']
 cases c.ty t with
 | none=>rfl
 | some i=>
  simp only
  split
  ·have hh:(st.slot e v).h=st.h:=rfl
   rw [hh]
   cases st.h.getD Y none with
   | none=>rfl
   | some r=>
    simp only
    cases o0v r.cells m (ev st.t xv).cells <;> rfl
  ·rfl
end
end Go.Am
